/- ShiftSystem, plain law: what both sides compute is the same; no condition beyond stated ranges. -/
import Derived.Test.YtaimceodhhgnnaaT34
import Derived.Test.YtaimceodhhgnnaaT19
namespace Go.Proofs.Ytaimceodhhgnnaa
open Go.Ab
set_option linter.unusedSimpArgs false
set_option linter.unusedVariables false

/-- terms put in one after another -/
def putAll (acc : List Tm) (M : List Tm) : List Tm := M.foldl (fun a u => putF u a) acc
theorem putAll_cons (acc : List Tm) (u : Tm) (M : List Tm) : putAll acc (u :: M) = putAll (putF u acc) M := rfl
theorem putAll_append (acc M N : List Tm) : putAll acc (M ++ N) = putAll (putAll acc M) N := List.foldl_append ..
theorem putAll_can : ∀ {M acc : List Tm}, Can acc → (∀ u ∈ M, inR u.c) → Can (putAll acc M)
  | [], acc, h, _ => h
  | u :: M, acc, h, hm => by
    rw [putAll_cons]
    exact putAll_can (h.put (hm u (by simp))) (fun v hv => hm v (by simp [hv]))
theorem cs_putAll (k : Tm) : ∀ (M acc : List Tm), cg (cs k (putAll acc M)) (cs k acc + cs k M)
  | [], acc => cg.of_eq (by simp [putAll, cs])
  | u :: M, acc => by
    rw [putAll_cons]
    refine (cs_putAll k M _).trans ?_
    refine ((cs_putF k u acc).add (cg.refl (cs k M))).trans (cg.of_eq ?_)
    simp only [cs]
    omega
theorem mem_putAll {y : Tm} : ∀ {M acc : List Tm}, y ∈ putAll acc M → y ∈ acc ∨ ∃ u ∈ M, ordT y u = 0
  | [], acc, h => .inl h
  | u :: M, acc, h => by
    rw [putAll_cons] at h
    rcases mem_putAll h with h | ⟨v, hv, h⟩
    · rcases mem_putF h with h | h
      · exact .inl h
      · exact .inr ⟨u, by simp, h⟩
    · exact .inr ⟨v, by simp [hv], h⟩
theorem putAll_length : ∀ (M acc : List Tm), (putAll acc M).length ≤ acc.length + M.length
  | [], acc => by simp [putAll]
  | u :: M, acc => by
    have h1 := putAll_length M (putF u acc)
    have h2 := putF_length u acc
    rw [putAll_cons, List.length_cons]
    omega
theorem coll_putAll {M : List Tm} (h : ∀ u ∈ M, inR u.c) : coll M = putAll [] M :=
  Can.uniq (can_coll h) (putAll_can Can.nil h) fun k => (cs_coll k M).trans ((cs_putAll k M []).trans (cg.of_eq (by simp [cs]))).symm

/-- exponents from 0 to B -/
def E (B : Int) (t : Tm) : Prop := (0 ≤ t.x ∧ t.x ≤ B) ∧ (0 ≤ t.y ∧ t.y ≤ B) ∧ (0 ≤ t.z ∧ t.z ≤ B)
theorem E.ord {B : Int} {a b : Tm} (h : E B b) (ho : ordT a b = 0) : E B a := by
  rw [ordT_zero] at ho
  unfold E at *
  omega
theorem E.exS {B : Int} {t : Tm} (h : E B t) (hB : B ≤ 1000) : exS t := by unfold E at h; unfold Go.Proofs.Ytaimceodhhgnnaa.exS; omega
theorem E.exB {B : Int} {t : Tm} (h : E B t) (hB : B ≤ 1000) : exB t := by unfold E at h; unfold Go.Proofs.Ytaimceodhhgnnaa.exB; omega
def upT (k : Int) (t : Tm) : Tm := wi t k (pw t k + 1)
theorem upT_c (k : Int) (t : Tm) : (upT k t).c = t.c := by
  unfold upT wi
  split
  · rfl
  · split <;> rfl
theorem upT_E {B k : Int} {t : Tm} (h : E B t) : E (B + 1) (upT k t) := by
  unfold E upT wi pw at *
  split
  · simp only; omega
  · split
    · simp only; omega
    · simp only; omega
theorem sc_E {B n : Int} {t : Tm} (h : E B t) : E (B + 1) (sc n t) := by
  unfold E sc at *
  simp only
  omega
def pairs (k n : Int) (L : List Tm) : List Tm := L.flatMap fun u => [upT k u, sc (-n) u]
theorem pairs_length (k n : Int) (L : List Tm) : (pairs k n L).length = 2 * L.length := by
  induction L with
  | nil => rfl
  | cons u L ih =>
    have : pairs k n (u :: L) = [upT k u, sc (-n) u] ++ pairs k n L := rfl
    rw [this, List.length_append, ih, List.length_cons]
    simp
    omega
theorem pairs_take {k n : Int} {L : List Tm} {i : Nat} (h : i < L.length) : pairs k n (L.take (i + 1)) = pairs k n (L.take i) ++ [upT k L[i], sc (-n) L[i]] := by
  unfold pairs
  rw [List.take_succ_eq_append_getElem h, List.flatMap_append]
  simp
theorem pairs_mem {k n : Int} {L : List Tm} {y : Tm} (h : y ∈ pairs k n L) : ∃ u ∈ L, y = upT k u ∨ y = sc (-n) u := by
  unfold pairs at h
  rw [List.mem_flatMap] at h
  obtain ⟨u, hu, h⟩ := h
  exact ⟨u, hu, by simpa using h⟩
theorem pairs_in {k n : Int} {L : List Tm} (h : ∀ t ∈ L, inR t.c) : ∀ y ∈ pairs k n L, inR y.c := by
  intro y hy
  obtain ⟨u, hu, rfl | rfl⟩ := pairs_mem hy
  · rw [upT_c]; exact h u hu
  · exact W_in _
theorem pairs_E {B k n : Int} {L : List Tm} (h : ∀ t ∈ L, E B t) : ∀ y ∈ pairs k n L, E (B + 1) y := by
  intro y hy
  obtain ⟨u, hu, rfl | rfl⟩ := pairs_mem hy
  · exact upT_E (h u hu)
  · exact sc_E (h u hu)
def xk (k : Int) : Tm := wi ⟨1, 0, 0, 0⟩ k 1
theorem prodL_pairs {k n : Int} : ∀ {L : List Tm}, (∀ t ∈ L, inR t.c) → prodL L [xk k, ⟨-n, 0, 0, 0⟩] = pairs k n L
  | [], _ => rfl
  | a :: L, h => by
    have e : prodL (a :: L) [xk k, ⟨-n, 0, 0, 0⟩] = [mulT a (xk k), mulT a ⟨-n, 0, 0, 0⟩] ++ prodL L [xk k, ⟨-n, 0, 0, 0⟩] := rfl
    have e2 : pairs k n (a :: L) = [upT k a, sc (-n) a] ++ pairs k n L := rfl
    rw [e, e2, prodL_pairs (fun t ht => h t (by simp [ht]))]
    have hw : W (a.c * 1) = a.c := by rw [Int.mul_one]; exact W_of_in (h a (by simp))
    have e3 : mulT a (xk k) = upT k a := by
      unfold mulT xk upT wi pw
      split
      · simp only [hw, Int.add_zero]
      · split <;> simp only [hw, Int.add_zero]
    have e4 : mulT a ⟨-n, 0, 0, 0⟩ = sc (-n) a := by simp [mulT, sc]
    rw [e3, e4]
def stepF (k n : Int) (L : List Tm) : List Tm := putAll [] (pairs k n L)
def powF (k n : Int) : Nat → List Tm → List Tm
  | 0, L => L
  | e + 1, L => powF k n e (stepF k n L)
/-- one round more at the end -/
theorem powF_succ (k n : Int) : ∀ (e : Nat) (L : List Tm), powF k n (e + 1) L = stepF k n (powF k n e L)
  | 0, L => rfl
  | e + 1, L => by
    show powF k n (e + 1) (stepF k n L) = _
    rw [powF_succ k n e]
    rfl
structure Fine (B : Int) (m : Nat) (L : List Tm) : Prop where
  can : Can L
  ex : ∀ t ∈ L, E B t
  len : L.length ≤ m
theorem Fine.inr {B : Int} {m : Nat} {L : List Tm} (h : Fine B m L) : ∀ t ∈ L, inR t.c := fun t ht => (h.can.nz t ht).2
theorem Fine.step {B k n : Int} {m : Nat} {L : List Tm} (h : Fine B m L) : Fine (B + 1) (2 * m) (stepF k n L) := by
  refine ⟨putAll_can Can.nil (pairs_in h.inr), fun t ht => ?_, ?_⟩
  · rcases mem_putAll ht with ht | ⟨u, hu, ho⟩
    · simp at ht
    · exact (pairs_E h.ex u hu).ord ho
  · have h1 := putAll_length (pairs k n L) []
    rw [pairs_length] at h1
    have := h.len
    unfold stepF
    simp at h1
    omega
theorem Fine.step_coll {B k n : Int} {m : Nat} {L : List Tm} (h : Fine B m L) : coll (prodL L [xk k, ⟨-n, 0, 0, 0⟩]) = stepF k n L := by
  rw [prodL_pairs h.inr]
  exact coll_putAll (pairs_in h.inr)
theorem Fine.pow {k n : Int} : ∀ (e : Nat) {B : Int} {m : Nat} {L : List Tm}, Fine B m L → Fine (B + e) (2 ^ e * m) (powF k n e L)
  | 0, B, m, L, h => by simpa [powF] using h
  | e + 1, B, m, L, h => by
    have := Fine.pow (k := k) (n := n) e (h.step (k := k) (n := n))
    have e1 : B + 1 + (e : Int) = B + ((e + 1 : Nat) : Int) := by omega
    have e2 : 2 ^ e * (2 * m) = 2 ^ (e + 1) * m := by rw [Nat.pow_succ, Nat.mul_assoc]
    rw [e1, e2] at this
    exact this
/-- the term with its unknown k put to the power 0 -/
def t0 (k : Int) (t : Tm) : Tm := wi t k 0
theorem t0_fine {k : Int} {t : Tm} (h : okTm t = true) (hc : t.c ≠ 0) : Fine 4 1 [t0 k t] := by
  have hb := okTm_b h
  have h1 : (t0 k t).c = t.c := by
    unfold t0 wi
    split
    · rfl
    · split <;> rfl
  refine ⟨⟨List.pairwise_singleton _ _, fun x hx => ?_⟩, fun x hx => ?_, Nat.le_refl _⟩
  · rw [List.mem_singleton.1 hx, h1]
    exact ⟨hc, by unfold inR; omega⟩
  · rw [List.mem_singleton.1 hx]
    unfold E t0 wi
    split
    · simp only; omega
    · split <;> simp only <;> omega
def shT (k n : Int) (t : Tm) : List Tm := powF k n (pw t k).toNat [t0 k t]
theorem pw_small {t : Tm} (h : okTm t = true) (k : Int) : 0 ≤ pw t k ∧ pw t k ≤ 4 := by
  have hb := okTm_b h
  unfold pw
  split
  · omega
  · split <;> omega
theorem Fine.wide {B B' : Int} {m m' : Nat} {L : List Tm} (h : Fine B m L) (h1 : B ≤ B') (h2 : m ≤ m') : Fine B' m' L :=
  ⟨h.can, fun t ht => by have := h.ex t ht; unfold E at *; omega, Nat.le_trans h.len h2⟩
theorem pow_fine {k n : Int} {t : Tm} (h : okTm t = true) (hc : t.c ≠ 0) {e : Nat} (he : e ≤ 4) : Fine 8 16 (powF k n e [t0 k t]) := by
  refine (Fine.pow e (t0_fine h hc)).wide (by omega) ?_
  rw [Nat.mul_one]
  exact Nat.pow_le_pow_right (by omega) he
theorem shT_fine {k n : Int} {t : Tm} (h : okTm t = true) (hc : t.c ≠ 0) : Fine 8 16 (shT k n t) := pow_fine h hc (by have := pw_small h k; omega)
def shM (k n : Int) (p : List Tm) : List Tm := p.flatMap (shT k n)
def shP (k n : Int) (p : List Tm) : List Tm := putAll [] (shM k n p)
theorem shM_mem {k n : Int} {p : List Tm} {u : Tm} (h : u ∈ shM k n p) : ∃ t ∈ p, u ∈ shT k n t := List.mem_flatMap.1 h
theorem shM_take {k n : Int} {p : List Tm} {i : Nat} (h : i < p.length) : shM k n (p.take (i + 1)) = shM k n (p.take i) ++ shT k n p[i] := by
  unfold shM
  rw [List.take_succ_eq_append_getElem h, List.flatMap_append]
  simp
theorem shM_length {k n : Int} : ∀ {p : List Tm}, (∀ t ∈ p, okTm t = true ∧ t.c ≠ 0) → (shM k n p).length ≤ 16 * p.length
  | [], _ => by simp [shM]
  | t :: p, h => by
    have h1 := (shT_fine (k := k) (n := n) (h t (by simp)).1 (h t (by simp)).2).len
    have h2 := shM_length (k := k) (n := n) (p := p) (fun x hx => h x (by simp [hx]))
    have e : shM k n (t :: p) = shT k n t ++ shM k n p := rfl
    rw [e, List.length_append, List.length_cons]
    omega
theorem shM_in {k n : Int} {p : List Tm} (h : ∀ t ∈ p, okTm t = true ∧ t.c ≠ 0) : ∀ u ∈ shM k n p, inR u.c ∧ u.c ≠ 0 ∧ E 8 u := by
  intro u hu
  obtain ⟨t, ht, hu⟩ := shM_mem hu
  have hf := shT_fine (k := k) (n := n) (h t ht).1 (h t ht).2
  exact ⟨(hf.can.nz u hu).2, (hf.can.nz u hu).1, hf.ex u hu⟩
theorem shP_coll {k n : Int} {p : List Tm} (h : ∀ t ∈ p, okTm t = true ∧ t.c ≠ 0) : coll (shM k n p) = shP k n p := coll_putAll fun u hu => (shM_in h u hu).1
theorem shP_ex {k n : Int} {p : List Tm} (h : ∀ t ∈ p, okTm t = true ∧ t.c ≠ 0) : ∀ y ∈ shP k n p, E 8 y := by
  intro y hy
  rcases mem_putAll hy with hy | ⟨u, hu, ho⟩
  · simp at hy
  · exact (shM_in h u hu).2.2.ord ho
theorem shP_length {k n : Int} {p : List Tm} (h : ∀ t ∈ p, okTm t = true ∧ t.c ≠ 0) : (shP k n p).length ≤ 16 * p.length := by
  have h1 := putAll_length (shM k n p) []
  have h2 := shM_length (k := k) (n := n) h
  unfold shP
  simp at h1
  omega

/-! ### the unknowns stay -/
theorem expF_ord {m : Int} {a b : Tm} (h : ordT a b = 0) : expF m a 0 = expF m b 0 := by
  obtain ⟨h1, h2, h3⟩ := (ordT_zero a b).1 h
  unfold expF
  rw [h1, h2, h3]
theorem expF_wi {m k j : Int} {t : Tm} (hk : 0 ≤ k) (hk2 : k < m) (h : expF m t 0 = true) : expF m (wi t k j) 0 = true := by
  unfold expF at *
  simp only [Bool.and_eq_true, Bool.or_eq_true, Bool.not_eq_true', decide_eq_true_eq, Bool.and_eq_false_iff, decide_eq_false_iff_not] at *
  unfold wi
  split
  · simp only; omega
  · split
    · simp only; omega
    · simp only; omega
theorem expF_up {m k : Int} {t : Tm} (hk : 0 ≤ k) (hk2 : k < m) (h : expF m t 0 = true) : expF m (upT k t) 0 = true := expF_wi hk hk2 h
theorem pow_exp {m k n : Int} (hk : 0 ≤ k) (hk2 : k < m) : ∀ (e : Nat) {L : List Tm}, (∀ t ∈ L, expF m t 0 = true) → ∀ t ∈ powF k n e L, expF m t 0 = true
  | 0, L, h => h
  | e + 1, L, h => pow_exp hk hk2 e (fun t ht => by
    rcases mem_putAll ht with ht | ⟨u, hu, ho⟩
    · simp at ht
    · rw [expF_ord ho]
      obtain ⟨v, hv, rfl | rfl⟩ := pairs_mem hu
      · exact expF_up hk hk2 (h v hv)
      · exact h v hv)
theorem needF_iff (m : Int) : ∀ l : List Tm, needF m l = true ↔ ∀ t ∈ l, expF m t 0 = true
  | [] => by simp [needF]
  | t :: l => by
    rw [needF, Bool.and_eq_true, needF_iff m l]
    simp
theorem shP_need {m k n : Int} {p : List Tm} (hk : 0 ≤ k) (hk2 : k < m) (h : needF m p = true) : needF m (shP k n p) = true := by
  rw [needF_iff] at *
  intro y hy
  rcases mem_putAll hy with hy | ⟨u, hu, ho⟩
  · simp at hy
  · rw [expF_ord ho]
    obtain ⟨t, ht, hu⟩ := shM_mem hu
    exact pow_exp hk hk2 _ (fun x hx => by rw [List.mem_singleton.1 hx]; exact expF_wi hk hk2 (h t ht)) u hu
theorem sysF_sh {k n : Int} {m : Nat} (hk : 0 ≤ k) (hk2 : k < m) : ∀ {l : List (List Tm)}, sysF m l = true → sysF m (l.map (shP k n)) = l.all fun p => goodP (shP k n p)
  | [], _ => rfl
  | p :: l, h => by
    simp only [sysF, Bool.and_eq_true] at h
    have h1 := shP_need (n := n) hk hk2 (by rw [need_from]; exact h.1.2)
    rw [need_from] at h1
    rw [List.map_cons, sysF, h1, sysF_sh hk hk2 h.2, List.all_cons, Bool.and_true]
def shA (ss : List (List Tm)) (k n : Int) : Bool := goodSS ss && inU ss.length k && (decide (-8 ≤ n) && decide (n ≤ 8))
def shR (ss : List (List Tm)) (k n : Int) : Option (List (List Tm)) := if shA ss k n && goodSS (ss.map (shP k n)) then some (ss.map (shP k n)) else none
theorem shR_small {ss : List (List Tm)} {k n : Int} {l : List (List Tm)} (h : shR ss k n = some l) : l.length ≤ 3 ∧ ∀ p ∈ l, p.length ≤ 20 := by
  unfold shR at h
  split at h
  · rename_i hg
    simp only [Bool.and_eq_true] at hg
    cases h
    obtain ⟨_, g1, g2⟩ := goodSS_all hg.2
    exact ⟨g1, fun p hp => (g2 p hp).1⟩
  · cases h
theorem goodSS_sh {ss : List (List Tm)} {k n : Int} (h : shA ss k n = true) : goodSS (ss.map (shP k n)) = ss.all fun p => goodP (shP k n p) := by
  simp only [shA, inU, Bool.and_eq_true, decide_eq_true_eq, goodSS] at h
  have := sysF_sh (k := k) (n := n) (m := ss.length) (by omega) (by omega) h.1.1.1
  unfold goodSS
  rw [List.length_map, this]
  have h1 : decide (1 ≤ (ss.length : Int)) = true := decide_eq_true (by omega)
  have h2 : decide ((ss.length : Int) ≤ 3) = true := decide_eq_true (by omega)
  rw [h1, h2, Bool.and_true, Bool.and_true]
end Go.Proofs.Ytaimceodhhgnnaa
