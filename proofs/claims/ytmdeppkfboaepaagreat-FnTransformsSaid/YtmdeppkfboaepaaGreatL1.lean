/- Parts of the proof of a statement of this seat: contracts of functions that the law calls, or the law's own row; no condition. -/
import Derived.Test.YtmdeppkfboaepaaGreatB5
/- FnTransforms, the row: for all bytes the law answers true and leaves its arguments as they were; no condition. -/
namespace Go.Proofs.YtmdeppkfboaepaaGreat.fnTransforms
open Go.ChangeShapes Go.WideShapes Go.ChangeAt Go.RowKit
open Go.Ab Ints
set_option maxRecDepth 100000
set_option linter.unusedSimpArgs false
set_option linter.unusedVariables false
theorem call (H : AHeap) (avs : List Value) (h : ShpAll Tryz.prog H 4 [22, 22] avs) : ACalls Tryz.prog H.next 3 avs H fun v _ => v = .bool true := by
 obtain ⟨v, u, rfl, h1, h2⟩ := shp2 h
 obtain ⟨la, g1⟩ := shp_bytes h1
 obtain ⟨lb, g2⟩ := shp_bytes h2
 exact lawTransforms_ok _ _ _ la lb _ (Nat.le_refl _) g1 g2
set_option maxRecDepth 100000 in
theorem lifted (os : Os) (started : os.Started) (T : Type) (enc : TypeId × Value → T) :
   ReturnsInHanded {} Tryz.checked os 3 .any (Rows.fnTransformsSpec.pre6 enc Tryz.prog Tryz.f3 Rows.fnTransformsRow.domain false) (Rows.fnTransformsSpec.post enc Tryz.prog Tryz.f3 false true false false) := by
 refine returnsInHanded_of_change_sized (C := Tryz.checked) own started (by kernel_rfl) Tryz.func3
   (ChangeSpec.witness6 (enc := enc) (C := Tryz.checked) false ⟨#[], #[.slice none 0 0, .slice none 0 0], []⟩ 8 (by kernel_rfl) (by kernel_rfl) (by kernel_rfl) (by kernel_rfl)) ?_
 intro W base args ds gs before hval0 hW hcnd hsz0 _
 have hval : ∀ (j : Nat) t v, Tryz.f3.params.toList[j]? = some t → args[j]? = some v → Value.okWide Tryz.prog W .any base t v := fun j t v a b => hval0 j t v (by simpa using a) b
 have hW' := hW
 obtain ⟨p, q, hA0, hV, rfl, hfz, hnd⟩ := hW
 have hA := hA0
 rw [Tryz.params3] at hA hval
 obtain ⟨rfl, rfl⟩ := trodVars_none hV
 rw [Tryz.params3, List.append_nil] at hsz0
 have hsz : (DataW.weightsEach Tryz.prog [22, 22] ds).all (· ≤ reachBytes) = true := hsz0
 refine (row_calls (n := 4) (by kernel_rfl) hA hsz hval is_laws_FnTransforms.enter call).mono fun e W' ⟨he, bel⟩ => ?_
 obtain ⟨v0, vs0, d0, ds0, p0, q0, hargs, rfl, rfl, k0, r0⟩ := trodAll_cons hA
 obtain ⟨v1, vs1, d1, ds1, p1, q1, rfl, rfl, rfl, k1, r1⟩ := trodAll_cons r0
 obtain ⟨rfl, rfl, rfl⟩ := trodAll_nil r1
 obtain rfl : args = #[v0, v1] := by cases args; simp_all
 have lt0 : ∀ x ∈ p0, x.block < W.heap.size := by obtain ⟨m, hm⟩ := k0; exact DataW.trod_lt m _ _ _ hm
 have lt1 : ∀ x ∈ p1, x.block < W.heap.size := by obtain ⟨m, hm⟩ := k1; exact DataW.trod_lt m _ _ _ hm
 subst he
 exact ⟨_, rfl, _, _, _, [], _, [], hW', trodAll_mk1 (shut_bool Tryz.underlying4 _), (trodAll_cons_mk (Below.trod laidOut (by kernel_rfl) (of_decide_eq_true (by kernel_rfl)) k0 bel lt0) (trodAll_cons_mk (Below.trod laidOut (by kernel_rfl) (of_decide_eq_true (by kernel_rfl)) k1 bel lt1) trodAll_mk0)), rfl, bel.frame _, fun h => by cases h⟩
theorem closed : joinedFacts Tryz.pinned.checked.prog 3 Tryz.f3 Rows.fnTransformsSpec Rows.fnTransformsRow = true := by
 unfold joinedFacts
 rw [k_may, k_lift, k_make]
 kernel_rfl
theorem over : Rows.fnTransformsRow.holds Tryz.pinned (OpenSpec.ofChange Rows.fnTransformsSpec) :=
 OpenClaim.holds_of_wide 3 Tryz.f3 rfl rfl rfl rfl rfl rfl rfl ⟨rfl, rfl, rfl, rfl, rfl⟩ rfl rfl rfl rfl rfl (by kernel_rfl) Tryz.func3 closed
   (of_decide_eq_true (by kernel_rfl)) (by unfold Func.isWrapper; first | (rw [if_pos (by decide +kernel)]; kernel_rfl) | (rw [if_neg (by decide +kernel)]; exact ⟨rfl, rfl⟩))
   (fun os started T enc _ => lifted os started T enc)
end Go.Proofs.YtmdeppkfboaepaaGreat.fnTransforms
namespace Go.Proofs.YtmdeppkfboaepaaGreat
theorem fnTransforms_holds : Rows.FnTransformsSaid := fnTransforms.over
#print axioms fnTransforms_holds
end Go.Proofs.YtmdeppkfboaepaaGreat
