/- FnExactJoinScripts, the row: for every two strings the law answers true; no condition. -/
import Derived.Test.YtfnjjkljpegoeaaJ1
import Derived.ChangeMaps5
import Derived.Test.YtfnjjkljpegoeaaB1
namespace Go.Proofs.Ytfnjjkljpegoeaa.fnExactJoinScripts
open Go.ChangeShapes Go.WideShapes Go.ChangeAt Go.RowKit
open Go.Ab
set_option linter.unusedSimpArgs false
set_option linter.unusedVariables false
set_option maxRecDepth 100000 in
theorem lifted (os : Os) (started : os.Started) (T : Type) (enc : TypeId × Value → T) :
    ReturnsInHanded {} Try.checked os 4 .any (Rows.fnExactJoinScriptsSpec.pre6 enc Try.prog Try.f4 Rows.fnExactJoinScriptsRow.domain false) (Rows.fnExactJoinScriptsSpec.post enc Try.prog Try.f4 false true false false) := by
  refine returnsInHanded_of_change_sized (C := Try.checked) own started (by kernel_rfl) Try.func4
    (ChangeSpec.witness6 (enc := enc) (C := Try.checked) false ⟨#[], #[.string ⟨#[]⟩, .string ⟨#[]⟩], []⟩ 8 (by kernel_rfl) (by kernel_rfl) (by kernel_rfl) (by kernel_rfl)) ?_
  intro W base args ds gs before hval0 hW hcnd hsz0 _
  rw [Try.params4] at hsz0
  have hval : ∀ (j : Nat) t v, Try.f4.params.toList[j]? = some t → args[j]? = some v → Value.okWide Try.prog W .any base t v := fun j t v a b => hval0 j t v (by simpa using a) b
  have hW' := hW
  obtain ⟨p, q, hA0, hV, rfl, hfz, hnd⟩ := hW
  have hA := hA0
  rw [Try.params4] at hA hval
  obtain ⟨v0, vs0, d0, ds0, p0, q0, hargs, rfl, rfl, k0, r0⟩ := trodAll_cons hA
  obtain ⟨v1, vs1, d1, ds1, p1, q1, rfl, rfl, rfl, k1, r1⟩ := trodAll_cons r0
  obtain ⟨rfl, rfl, rfl⟩ := trodAll_nil r1
  obtain rfl : args = #[v0, v1] := by cases args; simp_all
  obtain ⟨rfl, rfl⟩ := trodVars_none hV
  obtain ⟨s0, rfl, rfl, rfl, hs0⟩ := Go.ChangeMaps.open_string Try.underlying9 (hval 0 9 _ rfl rfl) k0
  obtain ⟨s1, rfl, rfl, rfl, hs1⟩ := Go.ChangeMaps.open_string Try.underlying9 (hval 1 9 _ rfl rfl) k1
  have g0 := sized_string hsz0 (j := 0) rfl rfl
  have g1 := sized_string hsz0 (j := 1) rfl rfl
  have e0 : s0.data.toList.length = s0.size := rfl
  have e1 : s1.data.toList.length = s1.size := rfl
  have er : reachBytes = 140737488351232 := rfl
  refine (law_calls (β := fun _ => none) (H := ⟨fun _ => none, 0⟩) (lawJoin_ok 0 s0 s1 ⟨fun _ => none, 0⟩ (Nat.le_refl _) (by omega) (by omega)) (WR.none W) ?_).mono fun e W' ⟨he, bel⟩ => ?_
  · refine ⟨rfl, fun i v v' h1 h2 => ?_⟩
    match i, h1, h2 with
    | 0, h1, h2 => cases h1; cases h2; exact .string _
    | 1, h1, h2 => cases h1; cases h2; exact .string _
  subst he
  exact ⟨_, rfl, _, _, _, [], _, [], hW', trodAll_mk1 (shut_bool Try.underlying4 _), (trodAll_cons_mk (Below.trod laidOut (by kernel_rfl) (of_decide_eq_true (by kernel_rfl)) k0 bel (by intro x hx; cases hx)) (trodAll_cons_mk (Below.trod laidOut (by kernel_rfl) (of_decide_eq_true (by kernel_rfl)) k1 bel (by intro x hx; cases hx)) trodAll_mk0)), rfl, bel.frame _, fun h => by cases h⟩
theorem over : Rows.fnExactJoinScriptsRow.holds Try.pinned (OpenSpec.ofChange Rows.fnExactJoinScriptsSpec) :=
  OpenClaim.holds_of_wide 4 Try.f4 rfl rfl rfl rfl rfl rfl rfl ⟨rfl, rfl, rfl, rfl, rfl⟩ rfl rfl rfl rfl rfl (by kernel_rfl) Try.func4 (by kernel_rfl)
    (of_decide_eq_true (by kernel_rfl)) (by unfold Func.isWrapper; first | (rw [if_pos (by decide +kernel)]; kernel_rfl) | (rw [if_neg (by decide +kernel)]; exact ⟨rfl, rfl⟩))
    (fun os started T enc _ => lifted os started T enc)
end Go.Proofs.Ytfnjjkljpegoeaa.fnExactJoinScripts
namespace Go.Proofs.Ytfnjjkljpegoeaa
/-- The row, under a short name, for the claim. -/
theorem fnExactJoinScripts_holds : Rows.FnExactJoinScriptsSaid := fnExactJoinScripts.over
#print axioms fnExactJoinScripts_holds
end Go.Proofs.Ytfnjjkljpegoeaa
