/- FnExactMirrorBox, the row: for every box and side the law answers true and leaves its arguments as they were; no condition. -/
import Derived.Test.YtfnjjkljpegoeaaK15
import Derived.Test.YtfnjjkljpegoeaaL1
namespace Go.Proofs.Ytfnjjkljpegoeaa
open Go.Ab
set_option linter.unusedSimpArgs false
set_option linter.unusedVariables false

theorem shp_len {H : AHeap} {n : Nat} {cs : List Value} (h : Shp Try.prog H (n + 2) 22 cs) : ∃ v l, cs = [v] ∧ SlI H v l ∧ l.length ≤ maxLen := by
  have h0 := h
  unfold Shp at h
  simp only [Try.underlying22] at h
  rcases h with rfl | ⟨b, len, cap, rfl, hb, hl, hm, h5⟩
  · exact ⟨_, [], rfl, Sl.nil _ _, by simp⟩
  · obtain ⟨l, hl2⟩ := shp_ints h0
    refine ⟨_, l, rfl, hl2, ?_⟩
    obtain ⟨_, a, c, h1, _⟩ := hl2
    cases h1
    omega
/-- a box argument -/
theorem shp_box {H : AHeap} {n : Nat} {v : Value} (h : ShpV Try.prog H (n + 3) 32 v) : ∃ k low high, BoxV H v k low high ∧ low.length ≤ maxLen ∧ high.length ≤ maxLen := by
  unfold ShpV at h
  simp only [Try.underlying32] at h
  obtain ⟨cs, rfl, h⟩ := h
  unfold Shp at h
  simp only [Try.underlying32] at h
  obtain ⟨hc, hf⟩ := h
  have e3 : Try.prog.cellsOf 32 = 3 := by kernel_rfl
  have e1 : Try.prog.cellsOf 3 = 1 := by kernel_rfl
  have e2 : Try.prog.cellsOf 22 = 1 := by kernel_rfl
  rw [e3] at hc
  match cs, hc with
  | [a, b, c], _ =>
    have f0 := hf _ (List.mem_cons_self ..)
    have f1 := hf _ (List.mem_cons_of_mem _ (List.mem_cons_self ..))
    have f2 := hf _ (List.mem_cons_of_mem _ (List.mem_cons_of_mem _ (List.mem_cons_self ..)))
    simp only [e1, e2, List.drop_zero, List.drop_succ_cons, List.take_succ_cons, List.take_zero] at f0 f1 f2
    unfold Shp at f0
    simp only [Try.underlying3] at f0
    obtain ⟨k, f0, _⟩ := f0
    obtain ⟨v1, l1, g1, g2, g3⟩ := shp_len f1
    obtain ⟨v2, l2, k1, k2, k3⟩ := shp_len f2
    cases f0
    cases g1
    cases k1
    exact ⟨k, l1, l2, ⟨_, _, rfl, g2, k2⟩, g3, k3⟩
end Go.Proofs.Ytfnjjkljpegoeaa
namespace Go.Proofs.Ytfnjjkljpegoeaa.fnExactMirrorBox
open Go.ChangeShapes Go.WideShapes Go.ChangeAt Go.RowKit
open Go.Ab
theorem own : ownKnob Try.prog.godebug = none := by kernel_rfl
theorem laidOut : laidOutB Try.prog = true := by kernel_rfl
theorem shp2 {P : Program} {H : AHeap} {n a b} {avs : List Value} (h : ShpAll P H n [a, b] avs) : ∃ v u, avs = [v, u] ∧ ShpV P H n a v ∧ ShpV P H n b u := by
  match avs, h with
  | [v, u], h => exact ⟨v, u, rfl, h.1, h.2.1⟩
theorem call (H : AHeap) (avs : List Value) (h : ShpAll Try.prog H 5 [32, 3] avs) : ACalls Try.prog H.next 5 avs H fun v _ => v = .bool true := by
  obtain ⟨v, u, rfl, h1, h2⟩ := shp2 h
  · obtain ⟨k, low, high, hb, g1, g2⟩ := shp_box h1
    unfold ShpV Shp at h2
    simp only [Try.underlying3] at h2
    obtain ⟨x, h2, _⟩ := h2
    cases h2
    have hm : maxLen = 9223372036854775807 := rfl
    exact lawMirror_ok _ _ k x low high _ (Nat.le_refl _) hb (by omega) (by omega)
set_option maxRecDepth 100000 in
theorem lifted (os : Os) (started : os.Started) (T : Type) (enc : TypeId × Value → T) :
    ReturnsInHanded {} Try.checked os 5 .any (Rows.fnExactMirrorBoxSpec.pre6 enc Try.prog Try.f5 Rows.fnExactMirrorBoxRow.domain false) (Rows.fnExactMirrorBoxSpec.post enc Try.prog Try.f5 false true false false) := by
  refine returnsInHanded_of_change_sized (C := Try.checked) own started (by kernel_rfl) Try.func5
    (ChangeSpec.witness6 (enc := enc) (C := Try.checked) false ⟨#[], #[.agg #[.int .i64 0, .slice none 0 0, .slice none 0 0], .int .i64 0], []⟩ 8 (by kernel_rfl) (by kernel_rfl) (by kernel_rfl) (by kernel_rfl)) ?_
  intro W base args ds gs before hval0 hW hcnd hsz0 _
  have hval : ∀ (j : Nat) t v, Try.f5.params.toList[j]? = some t → args[j]? = some v → Value.okWide Try.prog W .any base t v := fun j t v a b => hval0 j t v (by simpa using a) b
  have hW' := hW
  obtain ⟨p, q, hA0, hV, rfl, hfz, hnd⟩ := hW
  have hA := hA0
  rw [Try.params5] at hA hval
  refine (row_calls (n := 5) (by kernel_rfl) hA hval call).mono fun e W' ⟨he, bel⟩ => ?_
  obtain ⟨v0, vs0, d0, ds0, p0, q0, hargs, rfl, rfl, k0, r0⟩ := trodAll_cons hA
  obtain ⟨v1, vs1, d1, ds1, p1, q1, rfl, rfl, rfl, k1, r1⟩ := trodAll_cons r0
  obtain ⟨rfl, rfl, rfl⟩ := trodAll_nil r1
  obtain rfl : args = #[v0, v1] := by cases args; simp_all
  obtain ⟨rfl, rfl⟩ := trodVars_none hV
  have lt0 : ∀ x ∈ p0, x.block < W.heap.size := by obtain ⟨m, hm⟩ := k0; exact DataW.trod_lt m _ _ _ hm
  have lt1 : ∀ x ∈ p1, x.block < W.heap.size := by obtain ⟨m, hm⟩ := k1; exact DataW.trod_lt m _ _ _ hm
  subst he
  exact ⟨_, rfl, _, _, _, [], _, [], hW', trodAll_mk1 (shut_bool Try.underlying4 _), (trodAll_cons_mk (Below.trod laidOut (by kernel_rfl) (of_decide_eq_true (by kernel_rfl)) k0 bel lt0) (trodAll_cons_mk (Below.trod laidOut (by kernel_rfl) (of_decide_eq_true (by kernel_rfl)) k1 bel lt1) trodAll_mk0)), rfl, bel.frame _, fun h => by cases h⟩
theorem over : Rows.fnExactMirrorBoxRow.holds Try.pinned (OpenSpec.ofChange Rows.fnExactMirrorBoxSpec) :=
  OpenClaim.holds_of_wide 5 Try.f5 rfl rfl rfl rfl rfl rfl rfl ⟨rfl, rfl, rfl, rfl, rfl⟩ rfl rfl rfl rfl rfl (by kernel_rfl) Try.func5 (by kernel_rfl)
    (of_decide_eq_true (by kernel_rfl)) (by unfold Func.isWrapper; first | (rw [if_pos (by decide +kernel)]; kernel_rfl) | (rw [if_neg (by decide +kernel)]; exact ⟨rfl, rfl⟩))
    (fun os started T enc _ => lifted os started T enc)
end Go.Proofs.Ytfnjjkljpegoeaa.fnExactMirrorBox
namespace Go.Proofs.Ytfnjjkljpegoeaa
/-- The row, under a short name, for the claim. -/
theorem fnExactMirrorBox_holds : Rows.FnExactMirrorBoxSaid := fnExactMirrorBox.over
#print axioms fnExactMirrorBox_holds
end Go.Proofs.Ytfnjjkljpegoeaa
