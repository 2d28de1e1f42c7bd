/- Parts of the proof of a statement of this seat: contracts of functions that the law calls, or the law's own row; no condition. -/
import Derived.Test.YtagocdkcnajiiaaGreatB5
/- FnExactMirandaParts, the row: for every system, box and number the law answers true and leaves its arguments as they were; no condition. -/
namespace Go.Proofs.YtagocdkcnajiiaaGreat.fnExactMirandaParts
open Go.ChangeShapes Go.WideShapes Go.ChangeAt Go.RowKit
open Go.Ab
set_option maxRecDepth 100000
set_option linter.unusedSimpArgs false
set_option linter.unusedVariables false
theorem call (H : AHeap) (avs : List Value) (h : ShpAll Tryz.prog H 6 [22, 25, 3] avs) : ACalls Tryz.prog H.next 4 avs H fun v _ => v = .bool true := by
 obtain ⟨v, u, w, rfl, h1, h2, h3⟩ := shp3 h
 obtain ⟨ss, hss, g1, g2⟩ := shp_sys h1
 obtain ⟨k, L, U, hb, g3, g4⟩ := shp_box h2
 obtain ⟨x, rfl, _⟩ := shp_int h3
 exact lawMirandaParts_ok _ _ _ ss k L U x _ (Nat.le_refl _) hss hb g1 g2 g3 g4
set_option maxRecDepth 100000 in
theorem lifted (os : Os) (started : os.Started) (T : Type) (enc : TypeId × Value → T) :
   ReturnsInHanded {} Tryz.checked os 4 .any (Rows.fnExactMirandaPartsSpec.pre6 enc Tryz.prog Tryz.f4 Rows.fnExactMirandaPartsRow.domain false) (Rows.fnExactMirandaPartsSpec.post enc Tryz.prog Tryz.f4 false true false false) := by
 refine returnsInHanded_of_change_sized (C := Tryz.checked) own started (by kernel_rfl) Tryz.func4
   (ChangeSpec.witness6 (enc := enc) (C := Tryz.checked) false ⟨#[], #[.slice none 0 0, .agg #[.int .i64 0, .slice none 0 0, .slice none 0 0], .int .i64 0], []⟩ 8 (by kernel_rfl) (by kernel_rfl) (by kernel_rfl) (by kernel_rfl)) ?_
 intro W base args ds gs before hval0 hW hcnd hsz0 _
 have hval : ∀ (j : Nat) t v, Tryz.f4.params.toList[j]? = some t → args[j]? = some v → Value.okWide Tryz.prog W .any base t v := fun j t v a b => hval0 j t v (by simpa using a) b
 have hW' := hW
 obtain ⟨p, q, hA0, hV, rfl, hfz, hnd⟩ := hW
 have hA := hA0
 rw [Tryz.params4] at hA hval
 obtain ⟨rfl, rfl⟩ := trodVars_none hV
 rw [Tryz.params4, List.append_nil] at hsz0
 have hsz : (DataW.weightsEach Tryz.prog [22, 25, 3] ds).all (· ≤ reachBytes) = true := hsz0
 refine (row_calls (n := 6) (by kernel_rfl) hA hsz hval call).mono fun e W' ⟨he, bel⟩ => ?_
 obtain ⟨v0, vs0, d0, ds0, p0, q0, hargs, rfl, rfl, k0, r0⟩ := trodAll_cons hA
 obtain ⟨v1, vs1, d1, ds1, p1, q1, rfl, rfl, rfl, k1, r1⟩ := trodAll_cons r0
 obtain ⟨v2, vs2, d2, ds2, p2, q2, rfl, rfl, rfl, k2, r2⟩ := trodAll_cons r1
 obtain ⟨rfl, rfl, rfl⟩ := trodAll_nil r2
 obtain rfl : args = #[v0, v1, v2] := by cases args; simp_all
 have lt0 : ∀ x ∈ p0, x.block < W.heap.size := by obtain ⟨m, hm⟩ := k0; exact DataW.trod_lt m _ _ _ hm
 have lt1 : ∀ x ∈ p1, x.block < W.heap.size := by obtain ⟨m, hm⟩ := k1; exact DataW.trod_lt m _ _ _ hm
 have lt2 : ∀ x ∈ p2, x.block < W.heap.size := by obtain ⟨m, hm⟩ := k2; exact DataW.trod_lt m _ _ _ hm
 subst he
 exact ⟨_, rfl, _, _, _, [], _, [], hW', trodAll_mk1 (shut_bool Tryz.underlying4 _), (trodAll_cons_mk (Below.trod laidOut (by kernel_rfl) (of_decide_eq_true (by kernel_rfl)) k0 bel lt0) (trodAll_cons_mk (Below.trod laidOut (by kernel_rfl) (of_decide_eq_true (by kernel_rfl)) k1 bel lt1) (trodAll_cons_mk (Below.trod laidOut (by kernel_rfl) (of_decide_eq_true (by kernel_rfl)) k2 bel lt2) trodAll_mk0))), rfl, bel.frame _, fun h => by cases h⟩
theorem closed : joinedFacts Tryz.pinned.checked.prog 4 Tryz.f4 Rows.fnExactMirandaPartsSpec Rows.fnExactMirandaPartsRow = true := by
 unfold joinedFacts
 rw [k_may, k_lift, k_make]
 kernel_rfl
theorem over : Rows.fnExactMirandaPartsRow.holds Tryz.pinned (OpenSpec.ofChange Rows.fnExactMirandaPartsSpec) :=
 OpenClaim.holds_of_wide 4 Tryz.f4 rfl rfl rfl rfl rfl rfl rfl ⟨rfl, rfl, rfl, rfl, rfl⟩ rfl rfl rfl rfl rfl (by kernel_rfl) Tryz.func4 closed
   (of_decide_eq_true (by kernel_rfl)) (by unfold Func.isWrapper; first | (rw [if_pos (by decide +kernel)]; kernel_rfl) | (rw [if_neg (by decide +kernel)]; exact ⟨rfl, rfl⟩))
   (fun os started T enc _ => lifted os started T enc)
end Go.Proofs.YtagocdkcnajiiaaGreat.fnExactMirandaParts
namespace Go.Proofs.YtagocdkcnajiiaaGreat
theorem fnExactMirandaParts_holds : Rows.FnExactMirandaPartsSaid := fnExactMirandaParts.over
#print axioms fnExactMirandaParts_holds
end Go.Proofs.YtagocdkcnajiiaaGreat
