/- Parts of the proof of a statement of this seat: contracts of functions that the law calls, or the law's own row; no condition. -/
import Derived.Test.YtaimceodhhgnnaaB5
/- FnExactPassesMiranda, the row: for every system, box and list the law answers true and leaves its arguments as they were; no condition. -/
namespace Go.Proofs.Ytaimceodhhgnnaa.fnExactPassesMiranda
open Go.ChangeShapes Go.WideShapes Go.ChangeAt Go.RowKit
open Go.Ab
set_option maxRecDepth 100000
set_option linter.unusedSimpArgs false
set_option linter.unusedVariables false
theorem call (H : AHeap) (avs : List Value) (h : ShpAll Try.prog H 6 [22, 45, 38] avs) : ACalls Try.prog H.next 11 avs H fun v _ => v = .bool true := by
  obtain ⟨v, u, w, rfl, h1, h2, h3⟩ := shp3 h
  obtain ⟨ss, hss, g1, g2⟩ := shp_sys h1
  obtain ⟨k, L, U, hb, g3, g4⟩ := shp_box h2
  obtain ⟨ord, ho, g5⟩ := shp_list h3
  exact lawPassesMiranda_ok _ _ _ _ ss k L U ord _ (Nat.le_refl _) hss hb ho g5 g1 g2 g3 g4
set_option maxRecDepth 100000 in
theorem lifted (os : Os) (started : os.Started) (T : Type) (enc : TypeId × Value → T) :
    ReturnsInHanded {} Try.checked os 11 .any (Rows.fnExactPassesMirandaSpec.pre6 enc Try.prog Try.f11 Rows.fnExactPassesMirandaRow.domain false) (Rows.fnExactPassesMirandaSpec.post enc Try.prog Try.f11 false true false false) := by
  refine returnsInHanded_of_change_sized (C := Try.checked) own started (by kernel_rfl) Try.func11
    (ChangeSpec.witness6 (enc := enc) (C := Try.checked) false ⟨#[], #[.slice none 0 0, .agg #[.int .i64 0, .slice none 0 0, .slice none 0 0], .slice none 0 0], []⟩ 8 (by kernel_rfl) (by kernel_rfl) (by kernel_rfl) (by kernel_rfl)) ?_
  intro W base args ds gs before hval0 hW hcnd hsz0 _
  have hval : ∀ (j : Nat) t v, Try.f11.params.toList[j]? = some t → args[j]? = some v → Value.okWide Try.prog W .any base t v := fun j t v a b => hval0 j t v (by simpa using a) b
  have hW' := hW
  obtain ⟨p, q, hA0, hV, rfl, hfz, hnd⟩ := hW
  have hA := hA0
  rw [Try.params11] at hA hval
  obtain ⟨rfl, rfl⟩ := trodVars_none hV
  rw [Try.params11, List.append_nil] at hsz0
  have hsz : (DataW.weightsEach Try.prog [22, 45, 38] ds).all (· ≤ reachBytes) = true := hsz0
  refine (row_calls (n := 6) (by kernel_rfl) hA hsz hval call).mono fun e W' ⟨he, bel⟩ => ?_
  obtain ⟨v0, vs0, d0, ds0, p0, q0, hargs, rfl, rfl, k0, r0⟩ := trodAll_cons hA
  obtain ⟨v1, vs1, d1, ds1, p1, q1, rfl, rfl, rfl, k1, r1⟩ := trodAll_cons r0
  obtain ⟨v2, vs2, d2, ds2, p2, q2, rfl, rfl, rfl, k2, r2⟩ := trodAll_cons r1
  obtain ⟨rfl, rfl, rfl⟩ := trodAll_nil r2
  obtain rfl : args = #[v0, v1, v2] := by cases args; simp_all
  have lt0 : ∀ x ∈ p0, x.block < W.heap.size := by obtain ⟨m, hm⟩ := k0; exact DataW.trod_lt m _ _ _ hm
  have lt1 : ∀ x ∈ p1, x.block < W.heap.size := by obtain ⟨m, hm⟩ := k1; exact DataW.trod_lt m _ _ _ hm
  have lt2 : ∀ x ∈ p2, x.block < W.heap.size := by obtain ⟨m, hm⟩ := k2; exact DataW.trod_lt m _ _ _ hm
  subst he
  exact ⟨_, rfl, _, _, _, [], _, [], hW', trodAll_mk1 (shut_bool Try.underlying4 _), (trodAll_cons_mk (Below.trod laidOut (by kernel_rfl) (of_decide_eq_true (by kernel_rfl)) k0 bel lt0) (trodAll_cons_mk (Below.trod laidOut (by kernel_rfl) (of_decide_eq_true (by kernel_rfl)) k1 bel lt1) (trodAll_cons_mk (Below.trod laidOut (by kernel_rfl) (of_decide_eq_true (by kernel_rfl)) k2 bel lt2) trodAll_mk0))), rfl, bel.frame _, fun h => by cases h⟩
theorem closed : joinedFacts Try.pinned.checked.prog 11 Try.f11 Rows.fnExactPassesMirandaSpec Rows.fnExactPassesMirandaRow = true := by
  unfold joinedFacts
  rw [k_may, k_lift, k_make]
  kernel_rfl
theorem over : Rows.fnExactPassesMirandaRow.holds Try.pinned (OpenSpec.ofChange Rows.fnExactPassesMirandaSpec) :=
  OpenClaim.holds_of_wide 11 Try.f11 rfl rfl rfl rfl rfl rfl rfl ⟨rfl, rfl, rfl, rfl, rfl⟩ rfl rfl rfl rfl rfl (by kernel_rfl) Try.func11 closed
    (of_decide_eq_true (by kernel_rfl)) (by unfold Func.isWrapper; first | (rw [if_pos (by decide +kernel)]; kernel_rfl) | (rw [if_neg (by decide +kernel)]; exact ⟨rfl, rfl⟩))
    (fun os started T enc _ => lifted os started T enc)
end Go.Proofs.Ytaimceodhhgnnaa.fnExactPassesMiranda
namespace Go.Proofs.Ytaimceodhhgnnaa
/-- The row, under a short name, for the claim. -/
theorem fnExactPassesMiranda_holds : Rows.FnExactPassesMirandaSaid := fnExactPassesMiranda.over
#print axioms fnExactPassesMiranda_holds
end Go.Proofs.Ytaimceodhhgnnaa
