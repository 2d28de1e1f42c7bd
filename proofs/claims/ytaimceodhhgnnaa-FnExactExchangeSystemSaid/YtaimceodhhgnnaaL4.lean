/- FnExactExchangeSystem, the row: for every system and list the law answers true and leaves its arguments as they were; no condition. -/
import Derived.Test.YtaimceodhhgnnaaT23
import Derived.Test.YtaimceodhhgnnaaB3
namespace Go.Proofs.Ytaimceodhhgnnaa.fnExactExchangeSystem
open Go.ChangeShapes Go.WideShapes Go.ChangeAt Go.RowKit
open Go.Ab
set_option maxRecDepth 100000
set_option linter.unusedSimpArgs false
set_option linter.unusedVariables false
theorem call (H : AHeap) (avs : List Value) (h : ShpAll Try.prog H 6 [22, 38] avs) : ACalls Try.prog H.next 10 avs H fun v _ => v = .bool true := by
  obtain ⟨v, u, rfl, h1, h2⟩ := shp2 h
  obtain ⟨ss, hss, g1, g2⟩ := shp_sys h1
  obtain ⟨ord, ho, g3⟩ := shp_list h2
  exact lawExchangeSystem_ok _ _ ss _ ord _ (Nat.le_refl _) ho g3 hss g1 g2
set_option maxRecDepth 100000 in
theorem lifted (os : Os) (started : os.Started) (T : Type) (enc : TypeId × Value → T) :
    ReturnsInHanded {} Try.checked os 10 .any (Rows.fnExactExchangeSystemSpec.pre6 enc Try.prog Try.f10 Rows.fnExactExchangeSystemRow.domain false) (Rows.fnExactExchangeSystemSpec.post enc Try.prog Try.f10 false true false false) := by
  refine returnsInHanded_of_change_sized (C := Try.checked) own started (by kernel_rfl) Try.func10
    (ChangeSpec.witness6 (enc := enc) (C := Try.checked) false ⟨#[], #[.slice none 0 0, .slice none 0 0], []⟩ 8 (by kernel_rfl) (by kernel_rfl) (by kernel_rfl) (by kernel_rfl)) ?_
  intro W base args ds gs before hval0 hW hcnd hsz0 _
  have hval : ∀ (j : Nat) t v, Try.f10.params.toList[j]? = some t → args[j]? = some v → Value.okWide Try.prog W .any base t v := fun j t v a b => hval0 j t v (by simpa using a) b
  have hW' := hW
  obtain ⟨p, q, hA0, hV, rfl, hfz, hnd⟩ := hW
  have hA := hA0
  rw [Try.params10] at hA hval
  obtain ⟨rfl, rfl⟩ := trodVars_none hV
  rw [Try.params10, List.append_nil] at hsz0
  have hsz : (DataW.weightsEach Try.prog [22, 38] ds).all (· ≤ reachBytes) = true := hsz0
  refine (row_calls (n := 6) (by kernel_rfl) hA hsz hval call).mono fun e W' ⟨he, bel⟩ => ?_
  obtain ⟨v0, vs0, d0, ds0, p0, q0, hargs, rfl, rfl, k0, r0⟩ := trodAll_cons hA
  obtain ⟨v1, vs1, d1, ds1, p1, q1, rfl, rfl, rfl, k1, r1⟩ := trodAll_cons r0
  obtain ⟨rfl, rfl, rfl⟩ := trodAll_nil r1
  obtain rfl : args = #[v0, v1] := by cases args; simp_all
  have lt0 : ∀ x ∈ p0, x.block < W.heap.size := by obtain ⟨m, hm⟩ := k0; exact DataW.trod_lt m _ _ _ hm
  have lt1 : ∀ x ∈ p1, x.block < W.heap.size := by obtain ⟨m, hm⟩ := k1; exact DataW.trod_lt m _ _ _ hm
  subst he
  exact ⟨_, rfl, _, _, _, [], _, [], hW', trodAll_mk1 (shut_bool Try.underlying4 _), (trodAll_cons_mk (Below.trod laidOut (by kernel_rfl) (of_decide_eq_true (by kernel_rfl)) k0 bel lt0) (trodAll_cons_mk (Below.trod laidOut (by kernel_rfl) (of_decide_eq_true (by kernel_rfl)) k1 bel lt1) trodAll_mk0)), rfl, bel.frame _, fun h => by cases h⟩
theorem over : Rows.fnExactExchangeSystemRow.holds Try.pinned (OpenSpec.ofChange Rows.fnExactExchangeSystemSpec) :=
  OpenClaim.holds_of_wide 10 Try.f10 rfl rfl rfl rfl rfl rfl rfl ⟨rfl, rfl, rfl, rfl, rfl⟩ rfl rfl rfl rfl rfl (by kernel_rfl) Try.func10 (by kernel_rfl)
    (of_decide_eq_true (by kernel_rfl)) (by unfold Func.isWrapper; first | (rw [if_pos (by decide +kernel)]; kernel_rfl) | (rw [if_neg (by decide +kernel)]; exact ⟨rfl, rfl⟩))
    (fun os started T enc _ => lifted os started T enc)
end Go.Proofs.Ytaimceodhhgnnaa.fnExactExchangeSystem
namespace Go.Proofs.Ytaimceodhhgnnaa
/-- The row, under a short name, for the claim. -/
theorem fnExactExchangeSystem_holds : Rows.FnExactExchangeSystemSaid := fnExactExchangeSystem.over
#print axioms fnExactExchangeSystem_holds
end Go.Proofs.Ytaimceodhhgnnaa
