/- Parts of the proof of a statement of this seat: contracts of functions that the law calls, or the law's own row; no condition. -/
import Derived.Test.YtaimceodhhgnnaaM6
/- The rows' arguments, lists of numbers: told of the abstract heap; no condition. -/
namespace Go.Proofs.Ytaimceodhhgnnaa
open Go.Ab Ints
set_option linter.unusedSimpArgs false
set_option linter.unusedVariables false
set_option maxRecDepth 100000
/-- a slice argument of ints -/
theorem shp_ints {H : AHeap} {n : Nat} {v : Value} (h : Shp Try.prog H (n + 2) 38 [v]) : ∃ l, SlI H v l := by
  unfold Shp at h
  simp only [Try.underlying38] at h
  have hc : Try.prog.cellsOf 3 = 1 := by kernel_rfl
  rcases h with h | ⟨b, len, cap, h, hb, hl, hm, h5⟩
  · simp only [List.cons.injEq, and_true] at h
    subst h
    exact ⟨[], Sl.nil _ _⟩
  · simp only [List.cons.injEq, and_true] at h
    subst h
    rcases h5 with h5 | ⟨cells, h1, h2, h3⟩
    · have : len = 0 := by omega
      subst this
      refine ⟨[], by simp, some ⟨b, 0, some 0⟩, cap, rfl, by simp, (by intro h; cases h), (by intro ad h; cases h; exact ⟨.inl rfl, hb⟩), (by intro h; exact absurd rfl h)⟩
    · rw [hc, Nat.mul_one] at h2
      have hcell : ∀ i, i < cap → ∃ x, cells[i]? = some (vi x) := by
        intro i hi
        have h4 := h3 i hi
        rw [hc, Nat.mul_one] at h4
        unfold Shp at h4
        simp only [Try.underlying3] at h4
        obtain ⟨x, h4, _⟩ := h4
        have h6 := congrArg (fun l => l[0]?) h4
        simp only [List.getElem?_take, List.getElem?_drop] at h6
        exact ⟨x, by simpa using h6⟩
      have hall : ∃ zs : List Int, cells = zs.map vi := by
        clear h3 h1
        have hx : ∀ (cs : List Value), (∀ i, i < cs.length → ∃ x, cs[i]? = some (vi x)) → ∃ zs : List Int, cs = zs.map vi := by
          intro cs
          induction cs with
          | nil => intro _; exact ⟨[], rfl⟩
          | cons c cs ih =>
            intro h
            obtain ⟨x, hx⟩ := h 0 (by simp)
            obtain ⟨zs, hz⟩ := ih (fun i hi => by simpa using h (i + 1) (by simp; omega))
            simp at hx
            exact ⟨x :: zs, by simp [hx, hz]⟩
        exact hx cells (by rw [h2]; exact hcell)
      obtain ⟨zs, rfl⟩ := hall
      have hz : zs.length = cap := by simpa using h2
      have htl : (zs.take len).length = len := by simp; omega
      refine ⟨zs.take len, by simp, some ⟨b, 0, some 0⟩, cap, by rw [htl], by omega, (by intro h; cases h), (by intro ad h; cases h; exact ⟨.inl rfl, hb⟩), fun _ => ⟨b, 0, some 0, [], (zs.drop len).map vi, rfl, ?_, rfl⟩⟩
      rw [h1, List.nil_append, ← List.map_append, List.take_append_drop]
theorem shp_len {H : AHeap} {n : Nat} {cs : List Value} (h : Shp Try.prog H (n + 2) 38 cs) : ∃ v l, cs = [v] ∧ SlI H v l ∧ l.length ≤ 20000000000000 := by
  have h0 := h
  unfold Shp at h
  simp only [Try.underlying38] at h
  rcases h with rfl | ⟨b, len, cap, rfl, hb, hl, hm, h5⟩
  · exact ⟨_, [], rfl, Sl.nil _ _, by simp⟩
  · obtain ⟨l, hl2⟩ := shp_ints h0
    refine ⟨_, l, rfl, hl2, ?_⟩
    obtain ⟨_, a, c, h1, _⟩ := hl2
    cases h1
    have e8 : Try.prog.bytesOf 3 = 8 := by kernel_rfl
    have er : reachBytes = 140737488351232 := rfl
    rw [e8, er] at hm
    omega
theorem shp_list {H : AHeap} {n : Nat} {v : Value} (h : ShpV Try.prog H (n + 2) 38 v) : ∃ l, SlI H v l ∧ l.length ≤ 20000000000000 := by
  unfold ShpV at h
  simp only [Try.underlying38] at h
  obtain ⟨v', l, h1, h2, h3⟩ := shp_len h
  cases h1
  exact ⟨l, h2, h3⟩
end Go.Proofs.Ytaimceodhhgnnaa

/- The rows' arguments: a box, told of the abstract heap; no condition. -/
namespace Go.Proofs.Ytaimceodhhgnnaa
open Go.Ab Ints
set_option linter.unusedSimpArgs false
set_option linter.unusedVariables false
set_option maxRecDepth 100000
/-- a box argument -/
theorem shp_box {H : AHeap} {n : Nat} {v : Value} (h : ShpV Try.prog H (n + 3) 45 v) : ∃ k low high, BoxV H v k low high ∧ low.length ≤ 20000000000000 ∧ high.length ≤ 20000000000000 := by
  unfold ShpV at h
  simp only [Try.underlying45] at h
  obtain ⟨cs, rfl, h⟩ := h
  unfold Shp at h
  simp only [Try.underlying45] at h
  obtain ⟨hc, hf⟩ := h
  have e3 : Try.prog.cellsOf 45 = 3 := by kernel_rfl
  have e1 : Try.prog.cellsOf 3 = 1 := by kernel_rfl
  have e2 : Try.prog.cellsOf 38 = 1 := by kernel_rfl
  rw [e3] at hc
  match cs, hc with
  | [a, b, c], _ =>
    have f0 := hf _ (List.mem_cons_self ..)
    have f1 := hf _ (List.mem_cons_of_mem _ (List.mem_cons_self ..))
    have f2 := hf _ (List.mem_cons_of_mem _ (List.mem_cons_of_mem _ (List.mem_cons_self ..)))
    simp only [e1, e2, List.drop_zero, List.drop_succ_cons, List.take_succ_cons, List.take_zero] at f0 f1 f2
    unfold Shp at f0
    simp only [Try.underlying3] at f0
    obtain ⟨k, f0, _⟩ := f0
    obtain ⟨v1, l1, g1, g2, g3⟩ := shp_len f1
    obtain ⟨v2, l2, k1, k2, k3⟩ := shp_len f2
    cases f0
    cases g1
    cases k1
    exact ⟨k, l1, l2, ⟨_, _, rfl, g2, k2⟩, g3, k3⟩
end Go.Proofs.Ytaimceodhhgnnaa
