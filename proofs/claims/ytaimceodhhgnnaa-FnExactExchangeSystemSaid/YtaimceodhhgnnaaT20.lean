/- Systems of polynomials, part 20 of the walk: orders of at most three unknowns, and what an exchange keeps: plain law. -/
import Derived.Test.YtaimceodhhgnnaaT19
import Derived.Test.YtaimceodhhgnnaaI1
namespace Go.Proofs.Ytaimceodhhgnnaa
open Go.Ab
set_option linter.unusedSimpArgs false
set_option linter.unusedVariables false

theorem ord_cases {ord : List Int} (h : Ints.ordS ord = true) : ord = [0] ∨ ord = [0, 1] ∨ ord = [1, 0] ∨ ord = [0, 1, 2] ∨ ord = [0, 2, 1] ∨ ord = [1, 0, 2] ∨ ord = [1, 2, 0] ∨ ord = [2, 0, 1] ∨ ord = [2, 1, 0] := by
  obtain ⟨h1, h2, h3⟩ := Ints.ordS_in h
  rcases ord with _ | ⟨a, _ | ⟨b, _ | ⟨c, _ | ⟨d, l⟩⟩⟩⟩
  · simp at h1
  · have ha := h3 a (by simp)
    simp at ha
    have : a = 0 := by omega
    subst this
    simp
  · have ha := h3 a (by simp)
    have hb := h3 b (by simp)
    simp at ha hb
    have a' : a = 0 ∨ a = 1 := by omega
    have b' : b = 0 ∨ b = 1 := by omega
    rcases a' with rfl | rfl <;> rcases b' with rfl | rfl <;> first | (simp; done) | (exfalso; revert h; decide)
  · have ha := h3 a (by simp)
    have hb := h3 b (by simp)
    have hc := h3 c (by simp)
    simp at ha hb hc
    have a' : a = 0 ∨ a = 1 ∨ a = 2 := by omega
    have b' : b = 0 ∨ b = 1 ∨ b = 2 := by omega
    have c' : c = 0 ∨ c = 1 ∨ c = 2 := by omega
    rcases a' with rfl | rfl | rfl <;> rcases b' with rfl | rfl | rfl <;> rcases c' with rfl | rfl | rfl <;> first | (simp; done) | (exfalso; revert h; decide)
  · simp at h2

def fullL (ord : List Int) : List Int := ord ++ ((List.range 3).drop ord.length).map fun (i : Nat) => (i : Int)
/-- a term with its exponents in another order -/
def pm (ord : List Int) (t : Tm) : Tm := exG (fullL ord) t
theorem pm_cases {ord : List Int} (h : Ints.ordS ord = true) :
    (ord = [0] ∧ ∀ t, pm ord t = t) ∨ (ord = [0, 1] ∧ ∀ t, pm ord t = t) ∨ (ord = [1, 0] ∧ ∀ t, pm ord t = ⟨t.c, t.y, t.x, t.z⟩) ∨ (ord = [0, 1, 2] ∧ ∀ t, pm ord t = t) ∨ (ord = [0, 2, 1] ∧ ∀ t, pm ord t = ⟨t.c, t.x, t.z, t.y⟩) ∨
    (ord = [1, 0, 2] ∧ ∀ t, pm ord t = ⟨t.c, t.y, t.x, t.z⟩) ∨ (ord = [1, 2, 0] ∧ ∀ t, pm ord t = ⟨t.c, t.z, t.x, t.y⟩) ∨ (ord = [2, 0, 1] ∧ ∀ t, pm ord t = ⟨t.c, t.y, t.z, t.x⟩) ∨ (ord = [2, 1, 0] ∧ ∀ t, pm ord t = ⟨t.c, t.z, t.y, t.x⟩) := by
  rcases ord_cases h with rfl | rfl | rfl | rfl | rfl | rfl | rfl | rfl | rfl
  · exact .inl ⟨rfl, fun t => rfl⟩
  · exact .inr (.inl ⟨rfl, fun t => rfl⟩)
  · exact .inr (.inr (.inl ⟨rfl, fun t => rfl⟩))
  · exact .inr (.inr (.inr (.inl ⟨rfl, fun t => rfl⟩)))
  · exact .inr (.inr (.inr (.inr (.inl ⟨rfl, fun t => rfl⟩))))
  · exact .inr (.inr (.inr (.inr (.inr (.inl ⟨rfl, fun t => rfl⟩)))))
  · exact .inr (.inr (.inr (.inr (.inr (.inr (.inl ⟨rfl, fun t => rfl⟩))))))
  · exact .inr (.inr (.inr (.inr (.inr (.inr (.inr (.inl ⟨rfl, fun t => rfl⟩)))))))
  · exact .inr (.inr (.inr (.inr (.inr (.inr (.inr (.inr ⟨rfl, fun t => rfl⟩)))))))

theorem okTm_iff (t : Tm) : okTm t = true ↔ -1000 ≤ t.c ∧ t.c ≤ 1000 ∧ 0 ≤ t.x ∧ t.x ≤ 4 ∧ 0 ≤ t.y ∧ t.y ≤ 4 ∧ 0 ≤ t.z ∧ t.z ≤ 4 ∧ t.x + t.y + t.z ≤ 4 := by
  simp only [okTm, Bool.and_eq_true, decide_eq_true_eq]
  omega
theorem pm_ok {ord : List Int} (h : Ints.ordS ord = true) (t : Tm) (ht : okTm t = true) : okTm (pm ord t) = true ∧ (pm ord t).c = t.c := by
  rw [okTm_iff] at ht
  rcases pm_cases h with ⟨_, e⟩ | ⟨_, e⟩ | ⟨_, e⟩ | ⟨_, e⟩ | ⟨_, e⟩ | ⟨_, e⟩ | ⟨_, e⟩ | ⟨_, e⟩ | ⟨_, e⟩ <;> (rw [e, okTm_iff]; first | exact ⟨ht, rfl⟩ | (refine ⟨?_, rfl⟩; simp only; omega))
theorem pm_zero {ord : List Int} (h : Ints.ordS ord = true) (a b : Tm) : ordT (pm ord a) (pm ord b) = 0 ↔ ordT a b = 0 := by
  rcases pm_cases h with ⟨_, e⟩ | ⟨_, e⟩ | ⟨_, e⟩ | ⟨_, e⟩ | ⟨_, e⟩ | ⟨_, e⟩ | ⟨_, e⟩ | ⟨_, e⟩ | ⟨_, e⟩ <;> first | (rw [e a, e b]; done) | (rw [e a, e b, ordT_zero, ordT_zero a b]; constructor <;> (intro h; simp only at h ⊢; omega))
theorem pm_need {ord : List Int} (h : Ints.ordS ord = true) (t : Tm) (ht : expF ord.length t 0 = true) : expF ord.length (pm ord t) 0 = true := by
  rcases pm_cases h with ⟨rfl, e⟩ | ⟨rfl, e⟩ | ⟨rfl, e⟩ | ⟨rfl, e⟩ | ⟨rfl, e⟩ | ⟨rfl, e⟩ | ⟨rfl, e⟩ | ⟨rfl, e⟩ | ⟨rfl, e⟩ <;> rw [e] <;> first | exact ht | (simp [expF] at ht ⊢; try exact ht)

theorem Sor.dist {l : List Tm} (h : Sor l) : Dist l := h.imp fun h => by omega
theorem dist_pm {ord : List Int} (h : Ints.ordS ord = true) {l : List Tm} (hd : Dist l) : Dist (l.map (pm ord)) := by
  unfold Dist
  rw [List.pairwise_map]
  exact hd.imp fun hne he => hne ((pm_zero h _ _).1 he)

theorem goodF_mk : ∀ {l : List Tm} {u : Option Tm}, (∀ t ∈ l, okTm t = true ∧ t.c ≠ 0) → Sor l → (∀ v, u = some v → ∀ t ∈ l, ordT v t < 0) → goodF u l = true
  | [], u, _, _, _ => rfl
  | t :: l, u, h1, h2, h3 => by
    obtain ⟨g1, g2⟩ := List.pairwise_cons.1 h2
    have ht := h1 t (by simp)
    have ih := goodF_mk (l := l) (u := some t) (fun x hx => h1 x (by simp [hx])) g2 (by intro v hv x hx; cases hv; exact g1 x hx)
    unfold goodF
    rw [ih, ht.1]
    have hc : decide (t.c = 0) = false := decide_eq_false ht.2
    rw [hc]
    cases u with
    | none => rfl
    | some v =>
      have := h3 v rfl t (by simp)
      have hv : decide (ordT v t ≥ 0) = false := decide_eq_false (by omega)
      simp [hv]
theorem needF_all (n : Int) : ∀ l : List Tm, needF n l = l.all fun t => expF n t 0
  | [] => rfl
  | t :: l => by rw [needF, needF_all n l, List.all_cons]

/-- a polynomial with its unknowns exchanged -/
def exP (ord : List Int) (p : List Tm) : List Tm := insAll [] (p.map (pm ord))
theorem exP_good {ord : List Int} (h : Ints.ordS ord = true) {p : List Tm} (hl : p.length ≤ 20) (hok : ∀ t ∈ p, okTm t = true ∧ t.c ≠ 0) (hs : Sorted p) (hnd : needF ord.length p = true) :
    goodP (exP ord p) = true ∧ fromB ord.length (exP ord p) = true ∧ isortF [] (p.map (pm ord)) = exP ord p ∧ Sorted (exP ord p) ∧ (∀ t ∈ exP ord p, okTm t = true ∧ t.c ≠ 0) ∧ (exP ord p).length ≤ 20 := by
  have hd := dist_pm h (Sorted.sor hs).dist
  obtain ⟨g1, g2⟩ := insAll_sor (S := []) List.Pairwise.nil hd (by simp)
  have hmem : ∀ t ∈ exP ord p, okTm t = true ∧ t.c ≠ 0 := by
    intro t ht
    rcases mem_insAll.1 ht with ht | ht
    · simp at ht
    · obtain ⟨u, hu, rfl⟩ := List.mem_map.1 ht
      obtain ⟨k1, k2⟩ := hok u hu
      obtain ⟨m1, m2⟩ := pm_ok h u k1
      exact ⟨m1, by rw [m2]; exact k2⟩
  have hlen : (exP ord p).length = p.length := by unfold exP; rw [insAll_length]; simp
  refine ⟨?_, ?_, g2, Sor.sorted g1, hmem, by omega⟩
  · unfold goodP
    rw [goodF_mk hmem g1 (by intro v hv; cases hv), hlen]
    simp
    omega
  · rw [← need_from, needF_all, List.all_eq_true]
    rw [needF_all, List.all_eq_true] at hnd
    intro t ht
    rcases mem_insAll.1 ht with ht | ht
    · simp at ht
    · obtain ⟨u, hu, rfl⟩ := List.mem_map.1 ht
      exact pm_need h u (hnd u hu)
theorem sysF_need : ∀ {n : Nat} {l : List (List Tm)}, sysF n l = true → ∀ p ∈ l, needF n p = true
  | n, [], _, p, hp => by simp at hp
  | n, q :: l, h, p, hp => by
    simp only [sysF, Bool.and_eq_true] at h
    rcases List.mem_cons.1 hp with rfl | hp
    · rw [need_from]; exact h.1.2
    · exact sysF_need h.2 p hp
theorem sysF_ex {ord : List Int} (h : Ints.ordS ord = true) : ∀ {l : List (List Tm)}, sysF ord.length l = true → sysF ord.length (l.map (exP ord)) = true
  | [], _ => rfl
  | p :: l, hl => by
    obtain ⟨g1, g2, g3⟩ := sysF_all hl p (by simp)
    have g4 := sysF_need hl p (by simp)
    obtain ⟨k1, k2, _⟩ := exP_good h g1 g2 g3 g4
    simp only [sysF, Bool.and_eq_true] at hl
    rw [List.map_cons, sysF, k1, k2, sysF_ex h hl.2]
    rfl
/-- what both answer -/
def exR (ss : List (List Tm)) (ord : List Int) : Option (List (List Tm)) := if goodSS ss && Ints.ordN ord ss.length then some (ss.map (exP ord)) else none
theorem exR_good {ss : List (List Tm)} {ord : List Int} (h : (goodSS ss && Ints.ordN ord ss.length) = true) : goodSS ss = true ∧ ord.length = ss.length ∧ Ints.ordS ord = true ∧ goodSS (ss.map (exP ord)) = true := by
  simp only [Bool.and_eq_true, Ints.ordN, decide_eq_true_eq] at h
  obtain ⟨h1, h2, h3⟩ := h
  refine ⟨h1, h2, h3, ?_⟩
  simp only [goodSS, Bool.and_eq_true] at h1 ⊢
  rw [List.length_map]
  refine ⟨?_, h1.2⟩
  rw [← h2] at h1 ⊢
  exact sysF_ex h3 h1.1
theorem exR_small {ss : List (List Tm)} {ord : List Int} {l : List (List Tm)} (h : exR ss ord = some l) : l.length ≤ 3 ∧ ∀ p ∈ l, p.length ≤ 20 := by
  unfold exR at h
  split at h
  · rename_i hg
    cases h
    obtain ⟨_, g2, g3⟩ := goodSS_all (exR_good hg).2.2.2
    exact ⟨g2, fun p hp => (g3 p hp).1⟩
  · cases h
end Go.Proofs.Ytaimceodhhgnnaa
