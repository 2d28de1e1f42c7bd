/- Parts of the proof of a statement of this seat: contracts of functions that the law calls, or the law's own row; no condition. -/
import Derived.Test.YtldpdjpchcoigaaGreatB5
/- FnExactFollowRoot, the row: for all polynomials, intervals and finenesses the law answers true and leaves its arguments as they were; no condition. -/
namespace Go.Proofs.YtldpdjpchcoigaaGreat.fnExactFollowRoot
open Go.ChangeShapes Go.WideShapes Go.ChangeAt Go.RowKit
open Go.Ab Ints
set_option maxRecDepth 100000
set_option linter.unusedSimpArgs false
set_option linter.unusedVariables false
theorem call (H : AHeap) (avs : List Value) (h : ShpAll Tryz.prog H 6 [22, 22, 26, 3] avs) : ACalls Tryz.prog H.next 3 avs H fun v _ => v = .bool true := by
  obtain ⟨v, u, w, x, rfl, h1, h2, h3, h4⟩ := shp4 h
  obtain ⟨p, hp, g1⟩ := shp_list h1
  obtain ⟨q, hq, g2⟩ := shp_list h2
  obtain ⟨t, rfl⟩ := shp_interval h3
  obtain ⟨y, rfl, _⟩ := shp_int h4
  exact lawFollowRoot_ok _ _ _ p q t y _ (Nat.le_refl _) hp hq g1 g2
set_option maxRecDepth 100000 in
theorem lifted (os : Os) (started : os.Started) (T : Type) (enc : TypeId × Value → T) :
    ReturnsInHanded {} Tryz.checked os 3 .any (Rows.fnExactFollowRootSpec.pre6 enc Tryz.prog Tryz.f3 Rows.fnExactFollowRootRow.domain false) (Rows.fnExactFollowRootSpec.post enc Tryz.prog Tryz.f3 false true false false) := by
  refine returnsInHanded_of_change_sized (C := Tryz.checked) own started (by kernel_rfl) Tryz.func3
    (ChangeSpec.witness6 (enc := enc) (C := Tryz.checked) false ⟨#[], #[.slice none 0 0, .slice none 0 0, .agg #[.int .i64 0, .int .i64 0, .int .i64 0, .int .i64 0], .int .i64 0], []⟩ 8 (by kernel_rfl) (by kernel_rfl) (by kernel_rfl) (by kernel_rfl)) ?_
  intro W base args ds gs before hval0 hW hcnd hsz0 _
  have hval : ∀ (j : Nat) t v, Tryz.f3.params.toList[j]? = some t → args[j]? = some v → Value.okWide Tryz.prog W .any base t v := fun j t v a b => hval0 j t v (by simpa using a) b
  have hW' := hW
  obtain ⟨p, q, hA0, hV, rfl, hfz, hnd⟩ := hW
  have hA := hA0
  rw [Tryz.params3] at hA hval
  obtain ⟨rfl, rfl⟩ := trodVars_none hV
  rw [Tryz.params3, List.append_nil] at hsz0
  have hsz : (DataW.weightsEach Tryz.prog [22, 22, 26, 3] ds).all (· ≤ reachBytes) = true := hsz0
  refine (row_calls (n := 6) (by kernel_rfl) hA hsz hval is_laws_FnExactFollowRoot.enter call).mono fun e W' ⟨he, bel⟩ => ?_
  obtain ⟨v0, vs0, d0, ds0, p0, q0, hargs, rfl, rfl, k0, r0⟩ := trodAll_cons hA
  obtain ⟨v1, vs1, d1, ds1, p1, q1, rfl, rfl, rfl, k1, r1⟩ := trodAll_cons r0
  obtain ⟨v2, vs2, d2, ds2, p2, q2, rfl, rfl, rfl, k2, r2⟩ := trodAll_cons r1
  obtain ⟨v3, vs3, d3, ds3, p3, q3, rfl, rfl, rfl, k3, r3⟩ := trodAll_cons r2
  obtain ⟨rfl, rfl, rfl⟩ := trodAll_nil r3
  obtain rfl : args = #[v0, v1, v2, v3] := by cases args; simp_all
  have lt0 : ∀ x ∈ p0, x.block < W.heap.size := by obtain ⟨m, hm⟩ := k0; exact DataW.trod_lt m _ _ _ hm
  have lt1 : ∀ x ∈ p1, x.block < W.heap.size := by obtain ⟨m, hm⟩ := k1; exact DataW.trod_lt m _ _ _ hm
  have lt2 : ∀ x ∈ p2, x.block < W.heap.size := by obtain ⟨m, hm⟩ := k2; exact DataW.trod_lt m _ _ _ hm
  have lt3 : ∀ x ∈ p3, x.block < W.heap.size := by obtain ⟨m, hm⟩ := k3; exact DataW.trod_lt m _ _ _ hm
  subst he
  exact ⟨_, rfl, _, _, _, [], _, [], hW', trodAll_mk1 (shut_bool Tryz.underlying4 _), (trodAll_cons_mk (Below.trod laidOut (by kernel_rfl) (of_decide_eq_true (by kernel_rfl)) k0 bel lt0) (trodAll_cons_mk (Below.trod laidOut (by kernel_rfl) (of_decide_eq_true (by kernel_rfl)) k1 bel lt1) (trodAll_cons_mk (Below.trod laidOut (by kernel_rfl) (of_decide_eq_true (by kernel_rfl)) k2 bel lt2) (trodAll_cons_mk (Below.trod laidOut (by kernel_rfl) (of_decide_eq_true (by kernel_rfl)) k3 bel lt3) trodAll_mk0)))), rfl, bel.frame _, fun h => by cases h⟩
theorem closed : joinedFacts Tryz.pinned.checked.prog 3 Tryz.f3 Rows.fnExactFollowRootSpec Rows.fnExactFollowRootRow = true := by
  unfold joinedFacts
  rw [k_may, k_lift, k_make]
  kernel_rfl
theorem over : Rows.fnExactFollowRootRow.holds Tryz.pinned (OpenSpec.ofChange Rows.fnExactFollowRootSpec) :=
  OpenClaim.holds_of_wide 3 Tryz.f3 rfl rfl rfl rfl rfl rfl rfl ⟨rfl, rfl, rfl, rfl, rfl⟩ rfl rfl rfl rfl rfl (by kernel_rfl) Tryz.func3 closed
    (of_decide_eq_true (by kernel_rfl)) (by unfold Func.isWrapper; first | (rw [if_pos (by decide +kernel)]; kernel_rfl) | (rw [if_neg (by decide +kernel)]; exact ⟨rfl, rfl⟩))
    (fun os started T enc _ => lifted os started T enc)
end Go.Proofs.YtldpdjpchcoigaaGreat.fnExactFollowRoot
namespace Go.Proofs.YtldpdjpchcoigaaGreat
/-- The row, under a short name, for the claim. -/
theorem fnExactFollowRoot_holds : Rows.FnExactFollowRootSaid := fnExactFollowRoot.over
#print axioms fnExactFollowRoot_holds
end Go.Proofs.YtldpdjpchcoigaaGreat
