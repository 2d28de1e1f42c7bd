/- Systems of polynomials, part 18 of the walk: the specification's insertion of a term whose exponents are new; and that it is the sorting; no condition beyond stated lengths. -/
import Derived.Test.YtaimceodhhgnnaaT17
import Derived.Test.YtaimceodhhgnnaaT12
namespace Go.Proofs.Ytaimceodhhgnnaa
open Go.Ab
set_option linter.unusedSimpArgs false
set_option linter.unusedVariables false

/-- where it goes -/
def posF (t : Tm) : List Tm → Nat
  | [] => 0
  | x :: l => if ordT x t < 0 then posF t l + 1 else 0
theorem posF_le (t : Tm) : ∀ l : List Tm, posF t l ≤ l.length
  | [] => Nat.le_refl _
  | x :: l => by
    unfold posF
    split
    · have := posF_le t l; simp; omega
    · simp
/-- strict order as a relation of all pairs -/
def Sor (l : List Tm) : Prop := l.Pairwise fun a b => ordT a b < 0
theorem Sorted.sor : ∀ {l : List Tm}, Sorted l → Sor l
  | [], _ => List.Pairwise.nil
  | [a], _ => List.pairwise_singleton _ _
  | a :: b :: l, h => by
    have h1 : Sor (b :: l) := Sorted.sor (fun i hi => h (i + 1) (by simpa using hi))
    have h0 : ordT a b < 0 := h 0 (by simp)
    refine List.Pairwise.cons (fun c hc => ?_) h1
    rcases List.mem_cons.1 hc with rfl | hc
    · exact h0
    · exact ordT_trans h0 (List.rel_of_pairwise_cons h1 hc)
theorem slcT {H : AHeap} {s : Value} {l : List Tm} (h : SlT H s l) {k : Nat} (hk : k ≤ l.length) :
    (∃ v, slcV 4 s none (some (.int .i64 k)) none = some v ∧ SlT H v (l.take k)) ∧ ∃ v, slcV 4 s (some (.int .i64 k)) none none = some v ∧ SlT H v (l.drop k) := by
  have cut : ∀ (i j : Nat), i ≤ j → j ≤ l.length → ((tcs l).drop (i * 4)).take ((j - i) * 4) = tcs ((l.drop i).take (j - i)) := by
    intro i j hij hj
    have e : l = l.take i ++ ((l.drop i).take (j - i) ++ (l.drop i).drop (j - i)) := by rw [List.take_append_drop, List.take_append_drop]
    have e2 : tcs l = tcs (l.take i) ++ (tcs ((l.drop i).take (j - i)) ++ tcs ((l.drop i).drop (j - i))) := by rw [← tcs_append, ← tcs_append, ← e]
    rw [e2, List.drop_append, List.drop_of_length_le (by rw [tcs_length]; simp; omega), List.nil_append, tcs_length]
    have : i * 4 - (l.take i).length * 4 = 0 := by simp; omega
    rw [this, List.drop_zero, List.take_append_of_le_length (by rw [tcs_length]; simp; omega), List.take_of_length_le (by rw [tcs_length]; simp; omega)]
  refine ⟨?_, ?_⟩
  · obtain ⟨v, h1, h2⟩ := Sl.slc h (i := 0) (j := k) (lo := none) (hi := some (.int .i64 k)) (Nat.zero_le _) hk (.inl ⟨rfl, rfl⟩) (.inr ⟨.i64, rfl⟩)
    refine ⟨v, h1, ?_⟩
    rw [cut 0 k (Nat.zero_le _) hk] at h2
    unfold SlT
    simp only [List.drop_zero, Nat.sub_zero] at h2
    have : (l.take k).length = k := by simp; omega
    rw [this]
    exact h2
  · obtain ⟨v, h1, h2⟩ := Sl.slc h (i := k) (j := l.length) (lo := some (.int .i64 k)) (hi := none) hk (Nat.le_refl _) (.inr ⟨.i64, rfl⟩) (.inl ⟨rfl, rfl⟩)
    refine ⟨v, h1, ?_⟩
    rw [cut k l.length hk (Nat.le_refl _)] at h2
    unfold SlT
    have e1 : (l.drop k).take (l.length - k) = l.drop k := List.take_of_length_le (by simp)
    rw [e1] at h2
    have : (l.drop k).length = l.length - k := by simp
    rw [this]
    exact h2

theorem posF_step {t : Tm} : ∀ {l : List Tm} {k : Nat} (hk : k < l.length), k ≤ posF t l → (if ordT l[k] t < 0 then k + 1 ≤ posF t l else k = posF t l)
  | [], k, hk, _ => by simp at hk
  | x :: l, 0, hk, h => by
    simp only [List.getElem_cons_zero]
    unfold posF
    by_cases hx : ordT x t < 0
    · rw [if_pos hx, if_pos hx]; omega
    · rw [if_neg hx, if_neg hx]
  | x :: l, k + 1, hk, h => by
    simp only [List.getElem_cons_succ]
    have hx : ordT x t < 0 := by
      by_cases hx : ordT x t < 0
      · exact hx
      · unfold posF at h
        rw [if_neg hx] at h
        omega
    have h' : k ≤ posF t l := by unfold posF at h; rw [if_pos hx] at h; omega
    have := posF_step (t := t) (l := l) (k := k) (by simpa using hk) h'
    unfold posF
    rw [if_pos hx]
    split
    · rename_i h2; rw [if_pos h2] at this; omega
    · rename_i h2; rw [if_neg h2] at this; omega

end Go.Proofs.Ytaimceodhhgnnaa
