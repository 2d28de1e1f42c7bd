/- FnExactOrderSign, the row: for every slice of ints the law answers true and leaves its argument as it was; no condition. -/
import Derived.Test.YtfnjjkljpegoeaaK4
import Derived.Test.YtfnjjkljpegoeaaAbArg
import Derived.Test.YtfnjjkljpegoeaaRows
import Derived.WalkKit
import Derived.ProofKit
import Derived.OpenShut
import Derived.ShutString
import Derived.ChangeOld
import Derived.Below
import Derived.SizedLaws
namespace Go.Proofs.Ytfnjjkljpegoeaa
open Go.Ab
set_option linter.unusedSimpArgs false
set_option linter.unusedVariables false

/-- a slice argument of ints -/
theorem shp_ints {H : AHeap} {n : Nat} {v : Value} (h : Shp Try.prog H (n + 2) 22 [v]) : ∃ l, SlI H v l := by
  unfold Shp at h
  simp only [Try.underlying22] at h
  have hc : Try.prog.cellsOf 3 = 1 := by kernel_rfl
  rcases h with h | ⟨b, len, cap, h, hb, hl, hm, h5⟩
  · simp only [List.cons.injEq, and_true] at h
    subst h
    exact ⟨[], Sl.nil _ _⟩
  · simp only [List.cons.injEq, and_true] at h
    subst h
    rcases h5 with h5 | ⟨cells, h1, h2, h3⟩
    · have : len = 0 := by omega
      subst this
      refine ⟨[], by simp, some ⟨b, 0, some 0⟩, cap, rfl, by simp, (by intro h; cases h), (by intro ad h; cases h; exact ⟨.inl rfl, hb⟩), (by intro h; exact absurd rfl h)⟩
    · rw [hc, Nat.mul_one] at h2
      have hcell : ∀ i, i < cap → ∃ x, cells[i]? = some (vi x) := by
        intro i hi
        have h4 := h3 i hi
        rw [hc, Nat.mul_one] at h4
        unfold Shp at h4
        simp only [Try.underlying3] at h4
        obtain ⟨x, h4, _⟩ := h4
        have h6 := congrArg (fun l => l[0]?) h4
        simp only [List.getElem?_take, List.getElem?_drop] at h6
        exact ⟨x, by simpa using h6⟩
      have hall : ∃ zs : List Int, cells = zs.map vi := by
        clear h3 h1
        have hx : ∀ (cs : List Value), (∀ i, i < cs.length → ∃ x, cs[i]? = some (vi x)) → ∃ zs : List Int, cs = zs.map vi := by
          intro cs
          induction cs with
          | nil => intro _; exact ⟨[], rfl⟩
          | cons c cs ih =>
            intro h
            obtain ⟨x, hx⟩ := h 0 (by simp)
            obtain ⟨zs, hz⟩ := ih (fun i hi => by simpa using h (i + 1) (by simp; omega))
            simp at hx
            exact ⟨x :: zs, by simp [hx, hz]⟩
        exact hx cells (by rw [h2]; exact hcell)
      obtain ⟨zs, rfl⟩ := hall
      have hz : zs.length = cap := by simpa using h2
      have htl : (zs.take len).length = len := by simp; omega
      refine ⟨zs.take len, by simp, some ⟨b, 0, some 0⟩, cap, by rw [htl], by omega, (by intro h; cases h), (by intro ad h; cases h; exact ⟨.inl rfl, hb⟩), fun _ => ⟨b, 0, some 0, [], (zs.drop len).map vi, rfl, ?_, rfl⟩⟩
      rw [h1, List.nil_append, ← List.map_append, List.take_append_drop]
end Go.Proofs.Ytfnjjkljpegoeaa
namespace Go.Proofs.Ytfnjjkljpegoeaa.fnExactOrderSign
open Go.ChangeShapes Go.WideShapes Go.ChangeAt Go.RowKit
open Go.Ab
theorem own : ownKnob Try.prog.godebug = none := by kernel_rfl
theorem laidOut : laidOutB Try.prog = true := by kernel_rfl
theorem call (H : AHeap) (avs : List Value) (h : ShpAll Try.prog H 4 [22] avs) : ACalls Try.prog H.next 3 avs H fun v _ => v = .bool true := by
  match avs, h with
  | [v], h =>
    obtain ⟨h1, _⟩ := h
    unfold ShpV at h1
    simp only [Try.underlying22] at h1
    obtain ⟨l, hl⟩ := shp_ints h1
    exact lawOrderSign_ok _ _ l _ (Nat.le_refl _) hl
set_option maxRecDepth 100000 in
theorem lifted (os : Os) (started : os.Started) (T : Type) (enc : TypeId × Value → T) :
    ReturnsInHanded {} Try.checked os 3 .any (Rows.fnExactOrderSignSpec.pre6 enc Try.prog Try.f3 Rows.fnExactOrderSignRow.domain false) (Rows.fnExactOrderSignSpec.post enc Try.prog Try.f3 false true false false) := by
  refine returnsInHanded_of_change_sized (C := Try.checked) own started (by kernel_rfl) Try.func3
    (ChangeSpec.witness6 (enc := enc) (C := Try.checked) false ⟨#[], #[.slice none 0 0], []⟩ 8 (by kernel_rfl) (by kernel_rfl) (by kernel_rfl) (by kernel_rfl)) ?_
  intro W base args ds gs before hval0 hW hcnd hsz0 _
  have hval : ∀ (j : Nat) t v, Try.f3.params.toList[j]? = some t → args[j]? = some v → Value.okWide Try.prog W .any base t v := fun j t v a b => hval0 j t v (by simpa using a) b
  have hW' := hW
  obtain ⟨p, q, hA0, hV, rfl, hfz, hnd⟩ := hW
  have hA := hA0
  rw [Try.params3] at hA hval
  refine (row_calls (n := 4) (by kernel_rfl) hA hval call).mono fun e W' ⟨he, bel⟩ => ?_
  obtain ⟨v0, vs0, d0, ds0, p0, q0, hargs, rfl, rfl, k0, r0⟩ := trodAll_cons hA
  obtain ⟨rfl, rfl, rfl⟩ := trodAll_nil r0
  obtain rfl : args = #[v0] := by cases args; simp_all
  obtain ⟨rfl, rfl⟩ := trodVars_none hV
  have lt0 : ∀ x ∈ p0, x.block < W.heap.size := by obtain ⟨m, hm⟩ := k0; exact DataW.trod_lt m _ _ _ hm
  subst he
  exact ⟨_, rfl, _, _, _, [], _, [], hW', trodAll_mk1 (shut_bool Try.underlying4 _), (trodAll_cons_mk (Below.trod laidOut (by kernel_rfl) (of_decide_eq_true (by kernel_rfl)) k0 bel lt0) trodAll_mk0), rfl, bel.frame _, fun h => by cases h⟩
theorem over : Rows.fnExactOrderSignRow.holds Try.pinned (OpenSpec.ofChange Rows.fnExactOrderSignSpec) :=
  OpenClaim.holds_of_wide 3 Try.f3 rfl rfl rfl rfl rfl rfl rfl ⟨rfl, rfl, rfl, rfl, rfl⟩ rfl rfl rfl rfl rfl (by kernel_rfl) Try.func3 (by kernel_rfl)
    (of_decide_eq_true (by kernel_rfl)) (by unfold Func.isWrapper; first | (rw [if_pos (by decide +kernel)]; kernel_rfl) | (rw [if_neg (by decide +kernel)]; exact ⟨rfl, rfl⟩))
    (fun os started T enc _ => lifted os started T enc)
end Go.Proofs.Ytfnjjkljpegoeaa.fnExactOrderSign
namespace Go.Proofs.Ytfnjjkljpegoeaa
/-- The row, under a short name, for the claim. -/
theorem fnExactOrderSign_holds : Rows.FnExactOrderSignSaid := fnExactOrderSign.over
#print axioms fnExactOrderSign_holds
end Go.Proofs.Ytfnjjkljpegoeaa
