/- Parts of the proof of a statement of this seat: contracts of functions that the law calls, or the law's own row; no condition. -/
import Derived.Test.YtmdeppkfboaepaaGreatB5
namespace Go.Proofs.YtmdeppkfboaepaaGreat.fnFaces
open Go.ChangeShapes Go.WideShapes Go.ChangeAt Go.RowKit
open Go.Ab Ints
set_option maxRecDepth 100000
set_option linter.unusedSimpArgs false
set_option linter.unusedVariables false
theorem call (H : A1) (avs : List Value) (h : B6u Tryz.prog H 4 [22, 22] avs) : A5 Tryz.prog H.next 4 avs H fun v _ => v = .bool true := by
 obtain ⟨v, u, rfl, h1, h2⟩ := D57 h; obtain ⟨la, g1⟩ := B91 h1; obtain ⟨lb, g2⟩ := B91 h2; exact C18 _ _ _ la lb _ (Nat.le_refl _) g1 g2
set_option maxRecDepth 100000 in
theorem lifted (os : Os) (started : os.Started) (T : Type) (enc : TypeId × Value → T) :
 ReturnsInHanded {} Tryz.checked os 4 .any (Rows.fnFacesSpec.pre6 enc Tryz.prog Tryz.f4 Rows.fnFacesRow.domain false) (Rows.fnFacesSpec.post enc Tryz.prog Tryz.f4 false true false false) := by
 refine returnsInHanded_of_change_sized (C := Tryz.checked) own started (by kernel_rfl) Tryz.func4
  (ChangeSpec.witness6 (enc := enc) (C := Tryz.checked) false ⟨#[], #[.slice none 0 0, .slice none 0 0], []⟩ 8 (by kernel_rfl) (by kernel_rfl) (by kernel_rfl) (by kernel_rfl)) ?_
 intro W base args ds gs before hval0 hW hcnd hsz0 _; have hval : ∀ (j : Nat) t v, Tryz.f4.params.toList[j]? = some t → args[j]? = some v → Value.okWide Tryz.prog W .any base t v := fun j t v a b => hval0 j t v (by simpa using a) b
 have hW' := hW; obtain ⟨p, q, hA0, hV, rfl, hfz, hnd⟩ := hW; have hA := hA0; rw [Tryz.params4] at hA hval; obtain ⟨rfl, rfl⟩ := trodVars_none hV; rw [Tryz.params4, List.append_nil] at hsz0; have hsz : (DataW.weightsEach Tryz.prog [22, 22] ds).all (· ≤ reachBytes) = true := hsz0; refine (C7g (n := 4) (by kernel_rfl) hA hsz hval A4s.enter call).mono fun e W' ⟨he, bel⟩ => ?_
 obtain ⟨v0, vs0, d0, ds0, p0, q0, hargs, rfl, rfl, k0, r0⟩ := trodAll_cons hA; obtain ⟨v1, vs1, d1, ds1, p1, q1, rfl, rfl, rfl, k1, r1⟩ := trodAll_cons r0; obtain ⟨rfl, rfl, rfl⟩ := trodAll_nil r1; obtain rfl : args = #[v0, v1] := by cases args; simp_all
 have lt0 : ∀ x ∈ p0, x.block < W.heap.size := by obtain ⟨m, hm⟩ := k0; exact DataW.trod_lt m _ _ _ hm
 have lt1 : ∀ x ∈ p1, x.block < W.heap.size := by obtain ⟨m, hm⟩ := k1; exact DataW.trod_lt m _ _ _ hm
 subst he; exact ⟨_, rfl, _, _, _, [], _, [], hW', trodAll_mk1 (shut_bool Tryz.underlying4 _), (trodAll_cons_mk (Below.trod C6k (by kernel_rfl) (of_decide_eq_true (by kernel_rfl)) k0 bel lt0) (trodAll_cons_mk (Below.trod C6k (by kernel_rfl) (of_decide_eq_true (by kernel_rfl)) k1 bel lt1) trodAll_mk0)), rfl, bel.frame _, fun h => by cases h⟩
theorem closed : joinedFacts Tryz.pinned.checked.prog 4 Tryz.f4 Rows.fnFacesSpec Rows.fnFacesRow = true := by
 unfold joinedFacts; rw [D41, D31, D3s]
 kernel_rfl
theorem over : Rows.fnFacesRow.holds Tryz.pinned (OpenSpec.ofChange Rows.fnFacesSpec) :=
 OpenClaim.holds_of_wide 4 Tryz.f4 rfl rfl rfl rfl rfl rfl rfl ⟨rfl, rfl, rfl, rfl, rfl⟩ rfl rfl rfl rfl rfl (by kernel_rfl) Tryz.func4 closed
  (of_decide_eq_true (by kernel_rfl)) (by unfold Func.isWrapper; first | (rw [if_pos (by decide +kernel)]; kernel_rfl) | (rw [if_neg (by decide +kernel)]; exact ⟨rfl, rfl⟩))
  (fun os started T enc _ => lifted os started T enc)
end Go.Proofs.YtmdeppkfboaepaaGreat.fnFaces
namespace Go.Proofs.YtmdeppkfboaepaaGreat
theorem fnFaces_holds : Rows.FnFacesSaid := fnFaces.over
#print axioms fnFaces_holds
end Go.Proofs.YtmdeppkfboaepaaGreat
