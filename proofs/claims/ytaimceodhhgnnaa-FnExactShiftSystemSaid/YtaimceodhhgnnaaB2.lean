/- The rows' arguments: what a law of this seat is handed, told of the abstract heap; no condition. -/
import Derived.Test.YtaimceodhhgnnaaT4
import Derived.Test.YtaimceodhhgnnaaAbArg
import Derived.Test.YtaimceodhhgnnaaRows
import Derived.WalkKit
import Derived.ProofKit
import Derived.OpenShut
import Derived.ShutString
import Derived.ChangeOld
import Derived.Below
import Derived.SizedLaws
namespace Go.Proofs.Ytaimceodhhgnnaa
open Go.Ab
set_option linter.unusedSimpArgs false
set_option linter.unusedVariables false
set_option maxRecDepth 100000
theorem own : ownKnob Try.prog.godebug = none := by kernel_rfl
theorem laidOut : laidOutB Try.prog = true := by kernel_rfl
theorem shp3 {P : Program} {H : AHeap} {n a b c} {avs : List Value} (h : ShpAll P H n [a, b, c] avs) : ∃ v u w, avs = [v, u, w] ∧ ShpV P H n a v ∧ ShpV P H n b u ∧ ShpV P H n c w := by
  match avs, h with
  | [v, u, w], h => exact ⟨v, u, w, rfl, h.1, h.2.1, h.2.2.1⟩
theorem shp_int {H : AHeap} {n : Nat} {v : Value} (h : ShpV Try.prog H (n + 1) 3 v) : ∃ x, v = .int .i64 x ∧ (Lit.int .i64 x).wf = true := by
  unfold ShpV Shp at h
  simp only [Try.underlying3] at h
  obtain ⟨x, h, h2⟩ := h
  cases h
  exact ⟨x, rfl, h2⟩
theorem shp_cell {H : AHeap} {n : Nat} {cs : List Value} (h : Shp Try.prog H (n + 1) 3 cs) : ∃ x, cs = [vi x] := by
  unfold Shp at h
  simp only [Try.underlying3] at h
  obtain ⟨x, h, h2⟩ := h
  exact ⟨x, h⟩
/-- a term -/
theorem shp_term {H : AHeap} {n : Nat} {cs : List Value} (h : Shp Try.prog H (n + 2) 114 cs) : ∃ t, cs = tc t := by
  unfold Shp at h
  simp only [Try.underlying114] at h
  obtain ⟨hc, hf⟩ := h
  have e4 : Try.prog.cellsOf 114 = 4 := by kernel_rfl
  have e1 : Try.prog.cellsOf 3 = 1 := by kernel_rfl
  rw [e4] at hc
  match cs, hc with
  | [a, b, c, d], _ =>
    have f0 := hf _ (List.mem_cons_self ..)
    have f1 := hf _ (List.mem_cons_of_mem _ (List.mem_cons_self ..))
    have f2 := hf _ (List.mem_cons_of_mem _ (List.mem_cons_of_mem _ (List.mem_cons_self ..)))
    have f3 := hf _ (List.mem_cons_of_mem _ (List.mem_cons_of_mem _ (List.mem_cons_of_mem _ (List.mem_cons_self ..))))
    simp only [e1, List.drop_zero, List.drop_succ_cons, List.take_succ_cons, List.take_zero] at f0 f1 f2 f3
    obtain ⟨x0, g0⟩ := shp_cell f0
    obtain ⟨x1, g1⟩ := shp_cell f1
    obtain ⟨x2, g2⟩ := shp_cell f2
    obtain ⟨x3, g3⟩ := shp_cell f3
    cases g0
    cases g1
    cases g2
    cases g3
    exact ⟨⟨x0, x1, x2, x3⟩, rfl⟩
theorem cells_terms : ∀ (m : Nat) (cells : List Value), cells.length = m * 4 → (∀ i, i < m → ∃ t, (cells.drop (i * 4)).take 4 = tc t) → ∃ zs : List Tm, zs.length = m ∧ cells = tcs zs
  | 0, cells, hl, _ => ⟨[], rfl, List.length_eq_zero_iff.1 (by omega)⟩
  | m + 1, cells, hl, h => by
    obtain ⟨t, ht⟩ := h 0 (by omega)
    obtain ⟨zs, h1, h2⟩ := cells_terms m (cells.drop 4) (by simp; omega) (fun i hi => by
      obtain ⟨u, hu⟩ := h (i + 1) (by omega)
      refine ⟨u, ?_⟩
      rw [List.drop_drop, ← hu]
      congr 2
      omega)
    refine ⟨t :: zs, by simp [h1], ?_⟩
    rw [tcs_cons, ← h2, ← ht]
    simp
theorem shp_terms {H : AHeap} {n : Nat} {cs : List Value} (h : Shp Try.prog H (n + 3) 63 cs) : ∃ v l, cs = [v] ∧ SlT H v l ∧ l.length ≤ 20000000000000 := by
  unfold Shp at h
  simp only [Try.underlying63] at h
  have hc : Try.prog.cellsOf 114 = 4 := by kernel_rfl
  rcases h with rfl | ⟨b, len, cap, rfl, hb, hl, hm, h5⟩
  · exact ⟨_, [], rfl, Sl.nil _ _, by simp⟩
  · have e8 : Try.prog.bytesOf 114 = 32 := by kernel_rfl
    have er : reachBytes = 140737488351232 := rfl
    rw [e8, er] at hm
    rcases h5 with h5 | ⟨cells, h1, h2, h3⟩
    · have : len = 0 := by omega
      subst this
      exact ⟨_, [], rfl, ⟨by simp [tcs], some ⟨b, 0, some 0⟩, cap, rfl, by simp, (by intro h; cases h), (by intro ad h; cases h; exact ⟨.inl rfl, hb⟩), (by intro h; exact absurd rfl h)⟩, by simp⟩
    · rw [hc] at h2 h3
      obtain ⟨zs, hz, rfl⟩ := cells_terms cap cells h2 (fun i hi => shp_term (h3 i hi))
      have htl : (zs.take len).length = len := by simp; omega
      refine ⟨_, zs.take len, rfl, ?_, by omega⟩
      unfold SlT
      rw [htl]
      refine ⟨by rw [tcs_length, htl], some ⟨b, 0, some 0⟩, cap, rfl, by omega, (by intro h; cases h), (by intro ad h; cases h; exact ⟨.inl rfl, hb⟩), fun _ => ⟨b, 0, some 0, [], tcs (zs.drop len), rfl, ?_, rfl⟩⟩
      rw [h1, List.nil_append, ← tcs_append, List.take_append_drop]
theorem list_sys {H : AHeap} {B : Nat} : ∀ (cells : List Value), (∀ i, i < cells.length → ∃ s p, cells[i]? = some s ∧ SlT H s p ∧ p.length ≤ B) →
    ∃ ss : List (List Tm), ss.length = cells.length ∧ ∀ (i : Nat) (p : List Tm), ss[i]? = some p → ∃ s, cells[i]? = some s ∧ SlT H s p ∧ p.length ≤ B
  | [], _ => ⟨[], rfl, by intro i p h; simp at h⟩
  | c :: cells, h => by
    obtain ⟨s, p, h1, h2, h3⟩ := h 0 (by simp)
    obtain ⟨ss, g1, g2⟩ := list_sys cells (fun i hi => by simpa using h (i + 1) (by simp; omega))
    refine ⟨p :: ss, by simp [g1], fun i q hq => ?_⟩
    cases i with
    | zero => simp at hq; subst hq; exact ⟨s, h1, h2, h3⟩
    | succ i => simpa using g2 i q (by simpa using hq)
/-- a system -/
theorem shp_sys {H : AHeap} {n : Nat} {v : Value} (h : ShpV Try.prog H (n + 4) 22 v) : ∃ ss, SlSS H v ss ∧ ss.length ≤ 20000000000000 ∧ ∀ p ∈ ss, p.length ≤ 20000000000000 := by
  unfold ShpV at h
  simp only [Try.underlying22] at h
  unfold Shp at h
  simp only [Try.underlying22] at h
  have hc : Try.prog.cellsOf 63 = 1 := by kernel_rfl
  rcases h with h | ⟨b, len, cap, h, hb, hl, hm, h5⟩
  · cases h
    exact ⟨[], SlSS.nil _, by simp, by simp⟩
  · cases h
    have e8 : Try.prog.bytesOf 63 = 24 := by kernel_rfl
    have er : reachBytes = 140737488351232 := rfl
    rw [e8, er] at hm
    rcases h5 with h5 | ⟨cells, h1, h2, h3⟩
    · have : len = 0 := by omega
      subst this
      exact ⟨[], ⟨[], ⟨by simp, some ⟨b, 0, some 0⟩, cap, rfl, by simp, (by intro h; cases h), (by intro ad h; cases h; exact ⟨.inl rfl, hb⟩), (by intro h; exact absurd rfl h)⟩, by intro i p h; simp at h⟩, by simp, by simp⟩
    · rw [hc, Nat.mul_one] at h2
      obtain ⟨ss, g1, g2⟩ := list_sys (H := H) (B := 20000000000000) cells (fun i hi => by
        have h4 := h3 i (by omega)
        rw [hc, Nat.mul_one] at h4
        obtain ⟨s, p, k1, k2, k3⟩ := shp_terms h4
        have h6 := congrArg (fun l => l[0]?) k1
        simp only [List.getElem?_take, List.getElem?_drop] at h6
        exact ⟨s, p, by simpa using h6, k2, k3⟩)
      have htl : (ss.take len).length = len := by simp; omega
      refine ⟨ss.take len, ⟨cells.take len, ?_, fun i p hp => ?_⟩, by omega, fun p hp => ?_⟩
      · rw [htl]
        refine ⟨by simp; omega, some ⟨b, 0, some 0⟩, cap, rfl, by omega, (by intro h; cases h), (by intro ad h; cases h; exact ⟨.inl rfl, hb⟩), fun _ => ⟨b, 0, some 0, [], cells.drop len, rfl, ?_, rfl⟩⟩
        rw [h1, List.nil_append, List.take_append_drop]
      · have hi := (List.getElem?_eq_some_iff.1 hp).1
        rw [htl] at hi
        rw [List.getElem?_take, if_pos hi] at hp
        obtain ⟨s, q1, q2, q3⟩ := g2 i p hp
        exact ⟨s, by rw [List.getElem?_take, if_pos hi]; exact q1, q2⟩
      · obtain ⟨i, hi⟩ := List.mem_iff_getElem?.1 (List.mem_of_mem_take hp)
        obtain ⟨s, q1, q2, q3⟩ := g2 i p hi
        exact q3
end Go.Proofs.Ytaimceodhhgnnaa
