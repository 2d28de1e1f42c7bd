/- Systems of polynomials, part 12 of the walk: the mirrored and the stretched system, both sides; no condition beyond stated lengths. -/
import Derived.Test.YtaimceodhhgnnaaT11
namespace Go.Ab
theorem s_cut {P : Program} {lim : Nat} {Q : Post} {e : List Value} {H : AHeap} {a b : ACode} (I : List Value → AHeap → Prop) (h : awp P lim a (Post.seq I (fun _ _ _ => False)) e H) (h1 : ∀ e' H', I e' H' → awp P lim b Q e' H') : awp P lim (.seq a b) Q e H :=
  s_cut1 I h h1
end Go.Ab
namespace Go.Proofs.Ytaimceodhhgnnaa
open Go.Ab
set_option linter.unusedSimpArgs false
set_option linter.unusedVariables false

theorem goodF_all : ∀ {l : List Tm} {u : Option Tm}, goodF u l = true → (∀ t ∈ l, okTm t = true ∧ t.c ≠ 0) ∧ Sorted l
  | [], u, _ => ⟨by simp, by intro i h; simp at h⟩
  | t :: l, u, h => by
    simp only [goodF, Bool.and_eq_true, Bool.not_eq_true', decide_eq_false_iff_not] at h
    obtain ⟨⟨⟨h1, h2⟩, h3⟩, h4⟩ := h
    obtain ⟨g1, g2⟩ := goodF_all h4
    refine ⟨?_, ?_⟩
    · intro x hx
      rcases List.mem_cons.1 hx with rfl | hx
      · exact ⟨h1, h2⟩
      · exact g1 x hx
    · intro i hi
      cases i with
      | zero =>
        match l, h4, hi with
        | v :: l, h4, _ =>
          simp only [goodF, Bool.and_eq_true, Bool.not_eq_true', decide_eq_false_iff_not] at h4
          have := h4.1.2
          simp only [List.getElem_cons_zero, List.getElem_cons_succ]
          omega
      | succ i => exact g2 i (by simpa using hi)
theorem sysF_all : ∀ {n : Nat} {l : List (List Tm)}, sysF n l = true → ∀ p ∈ l, p.length ≤ 20 ∧ (∀ t ∈ p, okTm t = true ∧ t.c ≠ 0) ∧ Sorted p
  | n, [], _, p, hp => by simp at hp
  | n, q :: l, h, p, hp => by
    simp only [sysF, Bool.and_eq_true, goodP, decide_eq_true_eq] at h
    rcases List.mem_cons.1 hp with rfl | hp
    · obtain ⟨g1, g2⟩ := goodF_all h.1.1.1
      exact ⟨by omega, g1, g2⟩
    · exact sysF_all h.2 p hp
theorem goodSS_all {ss : List (List Tm)} (h : goodSS ss = true) : 1 ≤ ss.length ∧ ss.length ≤ 3 ∧ ∀ p ∈ ss, p.length ≤ 20 ∧ (∀ t ∈ p, okTm t = true ∧ t.c ≠ 0) ∧ Sorted p := by
  simp only [goodSS, Bool.and_eq_true, decide_eq_true_eq] at h
  exact ⟨by omega, by omega, sysF_all h.1⟩
end Go.Proofs.Ytaimceodhhgnnaa
