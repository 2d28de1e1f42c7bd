/- Parts of the proof of a statement of this seat: contracts of functions that the law calls, or the law's own row; no condition. -/
import Derived.Test.YtagocdkcnajiiaaGreatB5
/- FnExactLeastMirandaTimes, the row: for every system and box the law answers true and leaves its arguments as they were; no condition. -/
namespace Go.Proofs.YtagocdkcnajiiaaGreat.fnExactLeastMirandaTimes
open Go.ChangeShapes Go.WideShapes Go.ChangeAt Go.RowKit
open Go.Ab
set_option maxRecDepth 100000
set_option linter.unusedSimpArgs false
set_option linter.unusedVariables false
theorem call (H : AHeap) (avs : List Value) (h : ShpAll Tryz.prog H 6 [22, 25] avs) : ACalls Tryz.prog H.next 3 avs H fun v _ => v = .bool true := by
 obtain ⟨v, u, rfl, h1, h2⟩ := shp2 h
 obtain ⟨ss, hss, g1, g2⟩ := shp_sys h1
 obtain ⟨k, L, U, hb, g3, g4⟩ := shp_box h2
 exact lawLeastMirandaTimes_ok _ _ _ ss k L U _ (Nat.le_refl _) hss hb g1 g2 g3 g4
set_option maxRecDepth 100000 in
theorem lifted (os : Os) (started : os.Started) (T : Type) (enc : TypeId × Value → T) :
   ReturnsInHanded {} Tryz.checked os 3 .any (Rows.fnExactLeastMirandaTimesSpec.pre6 enc Tryz.prog Tryz.f3 Rows.fnExactLeastMirandaTimesRow.domain false) (Rows.fnExactLeastMirandaTimesSpec.post enc Tryz.prog Tryz.f3 false true false false) := by
 refine returnsInHanded_of_change_sized (C := Tryz.checked) own started (by kernel_rfl) Tryz.func3
   (ChangeSpec.witness6 (enc := enc) (C := Tryz.checked) false ⟨#[], #[.slice none 0 0, .agg #[.int .i64 0, .slice none 0 0, .slice none 0 0]], []⟩ 8 (by kernel_rfl) (by kernel_rfl) (by kernel_rfl) (by kernel_rfl)) ?_
 intro W base args ds gs before hval0 hW hcnd hsz0 _
 have hval : ∀ (j : Nat) t v, Tryz.f3.params.toList[j]? = some t → args[j]? = some v → Value.okWide Tryz.prog W .any base t v := fun j t v a b => hval0 j t v (by simpa using a) b
 have hW' := hW
 obtain ⟨p, q, hA0, hV, rfl, hfz, hnd⟩ := hW
 have hA := hA0
 rw [Tryz.params3] at hA hval
 obtain ⟨rfl, rfl⟩ := trodVars_none hV
 rw [Tryz.params3, List.append_nil] at hsz0
 have hsz : (DataW.weightsEach Tryz.prog [22, 25] ds).all (· ≤ reachBytes) = true := hsz0
 refine (row_calls (n := 6) (by kernel_rfl) hA hsz hval call).mono fun e W' ⟨he, bel⟩ => ?_
 obtain ⟨v0, vs0, d0, ds0, p0, q0, hargs, rfl, rfl, k0, r0⟩ := trodAll_cons hA
 obtain ⟨v1, vs1, d1, ds1, p1, q1, rfl, rfl, rfl, k1, r1⟩ := trodAll_cons r0
 obtain ⟨rfl, rfl, rfl⟩ := trodAll_nil r1
 obtain rfl : args = #[v0, v1] := by cases args; simp_all
 have lt0 : ∀ x ∈ p0, x.block < W.heap.size := by obtain ⟨m, hm⟩ := k0; exact DataW.trod_lt m _ _ _ hm
 have lt1 : ∀ x ∈ p1, x.block < W.heap.size := by obtain ⟨m, hm⟩ := k1; exact DataW.trod_lt m _ _ _ hm
 subst he
 exact ⟨_, rfl, _, _, _, [], _, [], hW', trodAll_mk1 (shut_bool Tryz.underlying4 _), (trodAll_cons_mk (Below.trod laidOut (by kernel_rfl) (of_decide_eq_true (by kernel_rfl)) k0 bel lt0) (trodAll_cons_mk (Below.trod laidOut (by kernel_rfl) (of_decide_eq_true (by kernel_rfl)) k1 bel lt1) trodAll_mk0)), rfl, bel.frame _, fun h => by cases h⟩
theorem closed : joinedFacts Tryz.pinned.checked.prog 3 Tryz.f3 Rows.fnExactLeastMirandaTimesSpec Rows.fnExactLeastMirandaTimesRow = true := by
 unfold joinedFacts
 rw [k_may, k_lift, k_make]
 kernel_rfl
theorem over : Rows.fnExactLeastMirandaTimesRow.holds Tryz.pinned (OpenSpec.ofChange Rows.fnExactLeastMirandaTimesSpec) :=
 OpenClaim.holds_of_wide 3 Tryz.f3 rfl rfl rfl rfl rfl rfl rfl ⟨rfl, rfl, rfl, rfl, rfl⟩ rfl rfl rfl rfl rfl (by kernel_rfl) Tryz.func3 closed
   (of_decide_eq_true (by kernel_rfl)) (by unfold Func.isWrapper; first | (rw [if_pos (by decide +kernel)]; kernel_rfl) | (rw [if_neg (by decide +kernel)]; exact ⟨rfl, rfl⟩))
   (fun os started T enc _ => lifted os started T enc)
end Go.Proofs.YtagocdkcnajiiaaGreat.fnExactLeastMirandaTimes
namespace Go.Proofs.YtagocdkcnajiiaaGreat
/-- The row, under a short name, for the claim. -/
theorem fnExactLeastMirandaTimes_holds : Rows.FnExactLeastMirandaTimesSaid := fnExactLeastMirandaTimes.over
#print axioms fnExactLeastMirandaTimes_holds
end Go.Proofs.YtagocdkcnajiiaaGreat
