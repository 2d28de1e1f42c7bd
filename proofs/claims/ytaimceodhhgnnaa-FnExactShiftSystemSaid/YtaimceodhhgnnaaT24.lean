/- Lists of terms, plain law: stable merging and insertion sort; no condition beyond stated order. -/
import Derived.Test.YtaimceodhhgnnaaT16
namespace Go.Proofs.Ytaimceodhhgnnaa
open Go.Ab
set_option linter.unusedSimpArgs false
set_option linter.unusedVariables false

/-- a does not come behind b -/
abbrev leT (a b : Tm) : Prop := ¬ ordT b a < 0
theorem leT_trans {a b c : Tm} (h1 : leT a b) (h2 : leT b c) : leT a c := by
  have e1 := ordT_lt b a
  have e2 := ordT_lt c b
  have e3 := ordT_lt c a
  unfold leT at *
  omega
theorem lt_le_trans {a b c : Tm} (h1 : ordT a b < 0) (h2 : leT b c) : ordT a c < 0 := by
  have e1 := ordT_lt a b
  have e2 := ordT_lt c b
  have e3 := ordT_lt a c
  unfold leT at *
  omega
theorem le_lt_trans {a b c : Tm} (h1 : leT a b) (h2 : ordT b c < 0) : ordT a c < 0 := by
  have e1 := ordT_lt b a
  have e2 := ordT_lt b c
  have e3 := ordT_lt a c
  unfold leT at *
  omega
theorem lt_le {a b : Tm} (h : ordT a b < 0) : leT a b := by
  have := ordT_neg a b
  unfold leT
  omega
def WS (l : List Tm) : Prop := l.Pairwise leT

/-! ### merging -/
def mIn (x : Tm) (f : List Tm → List Tm) : List Tm → List Tm
  | [] => x :: f []
  | y :: R => if ordT y x < 0 then y :: mIn x f R else x :: f (y :: R)
def mergeF : List Tm → List Tm → List Tm
  | [], R => R
  | x :: L, R => mIn x (mergeF L) R
theorem mergeF_nil : ∀ L : List Tm, mergeF L [] = L
  | [] => rfl
  | x :: L => by rw [mergeF, mIn, mergeF_nil L]
theorem mergeF_nil_l (R : List Tm) : mergeF [] R = R := rfl
theorem mergeF_cons (x y : Tm) (L R : List Tm) : mergeF (x :: L) (y :: R) = if ordT y x < 0 then y :: mergeF (x :: L) R else x :: mergeF L (y :: R) := by
  simp only [mergeF, mIn]
theorem mem_mergeF {t : Tm} : ∀ {L R : List Tm}, t ∈ mergeF L R ↔ t ∈ L ∨ t ∈ R
  | [], R => by simp [mergeF]
  | x :: L, [] => by rw [mergeF_nil]; simp
  | x :: L, y :: R => by
    rw [mergeF_cons]
    split
    · rw [List.mem_cons, mem_mergeF (L := x :: L) (R := R), List.mem_cons, List.mem_cons]
      constructor
      · rintro (h | h | h)
        · exact .inr (.inl h)
        · exact .inl h
        · exact .inr (.inr h)
      · rintro (h | h | h)
        · exact .inr (.inl h)
        · exact .inl h
        · exact .inr (.inr h)
    · rw [List.mem_cons, mem_mergeF (L := L) (R := y :: R), List.mem_cons, List.mem_cons]
      constructor
      · rintro (h | h | h)
        · exact .inl (.inl h)
        · exact .inl (.inr h)
        · exact .inr h
      · rintro ((h | h) | h)
        · exact .inl h
        · exact .inr (.inl h)
        · exact .inr (.inr h)
theorem mergeF_length : ∀ (L R : List Tm), (mergeF L R).length = L.length + R.length
  | [], R => by simp [mergeF]
  | x :: L, [] => by rw [mergeF_nil]; rfl
  | x :: L, y :: R => by
    rw [mergeF_cons]
    split
    · rw [List.length_cons, mergeF_length (x :: L) R]; simp; omega
    · rw [List.length_cons, mergeF_length L (y :: R)]; simp; omega
theorem mergeF_split : ∀ (L1 R1 L2 R2 : List Tm), (∀ l ∈ L1, ∀ r ∈ R2, leT l r) → (∀ r ∈ R1, ∀ l ∈ L2, ordT r l < 0) → mergeF (L1 ++ L2) (R1 ++ R2) = mergeF L1 R1 ++ mergeF L2 R2
  | [], [], L2, R2, _, _ => rfl
  | [], y :: R1, [], R2, _, _ => rfl
  | [], y :: R1, l :: L2, R2, h1, h2 => by
    have h : ordT y l < 0 := h2 y (by simp) l (by simp)
    have ih := mergeF_split [] R1 (l :: L2) R2 (by simp) (fun r hr k hk => h2 r (by simp [hr]) k hk)
    simp only [List.nil_append, List.cons_append] at ih ⊢
    rw [mergeF_cons, if_pos h, ih]
    rfl
  | x :: L1, [], L2, [], h1, _ => by simp [mergeF_nil]
  | x :: L1, [], L2, r :: R2, h1, h2 => by
    have h : ¬ ordT r x < 0 := h1 x (by simp) r (by simp)
    have ih := mergeF_split L1 [] L2 (r :: R2) (fun l hl k hk => h1 l (by simp [hl]) k hk) (by simp)
    simp only [List.nil_append, List.cons_append] at ih ⊢
    rw [mergeF_cons, if_neg h, ih, mergeF_nil, mergeF_nil]
    rfl
  | x :: L1, y :: R1, L2, R2, h1, h2 => by
    simp only [List.cons_append]
    rw [mergeF_cons, mergeF_cons]
    split
    · have ih := mergeF_split (x :: L1) R1 L2 R2 h1 (fun r hr k hk => h2 r (by simp [hr]) k hk)
      rw [List.cons_append] at ih
      rw [ih]; rfl
    · have ih := mergeF_split L1 (y :: R1) L2 R2 (fun l hl k hk => h1 l (by simp [hl]) k hk) h2
      rw [List.cons_append] at ih
      rw [ih]; rfl

/-! ### one term put in from behind -/
theorem insB_split {P1 P2 : List Tm} {t : Tm} (h1 : ∀ x ∈ P1, leT x t) (h2 : ∀ x ∈ P2, ordT t x < 0) : insB (P1 ++ P2) t = P1 ++ t :: P2 := by
  have key : ∀ (n : Nat) (P2 : List Tm), P2.length = n → (∀ x ∈ P2, ordT t x < 0) → insB (P1 ++ P2) t = P1 ++ t :: P2 := by
    intro n
    induction n with
    | zero =>
      intro P2 hn _
      have : P2 = [] := List.length_eq_zero_iff.1 hn
      subst this
      rcases List.eq_nil_or_concat P1 with rfl | ⟨Q, x, hQ⟩
      · rfl
      · rw [List.concat_eq_append] at hQ
        subst hQ
        rw [List.append_nil, insB_ge (h1 x (by simp))]
        simp
    | succ n ih =>
      intro P2 hn h
      rcases List.eq_nil_or_concat P2 with rfl | ⟨Q, x, hQ⟩
      · simp at hn
      · rw [List.concat_eq_append] at hQ
        subst hQ
        rw [← List.append_assoc, insB_lt (h x (by simp)), ih Q (by simp at hn; omega) (fun y hy => h y (by simp [hy]))]
        simp
  exact key _ P2 rfl h2
theorem ws_split (t : Tm) : ∀ {l : List Tm}, WS l → ∃ l1 l2, l = l1 ++ l2 ∧ (∀ x ∈ l1, leT x t) ∧ (∀ x ∈ l2, ordT t x < 0)
  | [], _ => ⟨[], [], rfl, by simp, by simp⟩
  | x :: l, h => by
    obtain ⟨h1, h2⟩ := List.pairwise_cons.1 h
    by_cases hx : ordT t x < 0
    · refine ⟨[], x :: l, rfl, by simp, fun y hy => ?_⟩
      rcases List.mem_cons.1 hy with rfl | hy
      · exact hx
      · exact lt_le_trans hx (h1 y hy)
    · obtain ⟨l1, l2, rfl, g1, g2⟩ := ws_split t h2
      refine ⟨x :: l1, l2, rfl, fun y hy => ?_, g2⟩
      rcases List.mem_cons.1 hy with rfl | hy
      · exact hx
      · exact g1 y hy
theorem ws_insB {l : List Tm} (t : Tm) (h : WS l) : WS (insB l t) := by
  obtain ⟨l1, l2, rfl, g1, g2⟩ := ws_split t h
  rw [insB_split g1 g2]
  obtain ⟨k1, k2, k3⟩ := List.pairwise_append.1 h
  refine List.pairwise_append.2 ⟨k1, List.pairwise_cons.2 ⟨fun x hx => lt_le (g2 x hx), k2⟩, fun a ha b hb => ?_⟩
  rcases List.mem_cons.1 hb with rfl | hb
  · exact g1 a ha
  · exact k3 a ha b hb
theorem mem_insB {t x : Tm} {l : List Tm} : x ∈ insB l t ↔ x ∈ l ∨ x = t := by
  have : ∀ m : List Tm, x ∈ insRev t m ↔ x ∈ m ∨ x = t := by
    intro m
    induction m with
    | nil => simp [insRev]
    | cons y m ih =>
      unfold insRev
      split
      · rw [List.mem_cons, ih, List.mem_cons]
        constructor
        · rintro (h | h | h)
          · exact .inl (.inl h)
          · exact .inl (.inr h)
          · exact .inr h
        · rintro ((h | h) | h)
          · exact .inl h
          · exact .inr (.inl h)
          · exact .inr (.inr h)
      · rw [List.mem_cons]
        constructor
        · rintro (h | h)
          · exact .inr h
          · exact .inl h
        · rintro (h | h)
          · exact .inr h
          · exact .inl h
  unfold insB
  rw [List.mem_reverse, this, List.mem_reverse]
theorem insB_merge {L R : List Tm} (t : Tm) (hL : WS L) (hR : WS R) : insB (mergeF L R) t = mergeF L (insB R t) := by
  obtain ⟨L1, L2, rfl, a1, a2⟩ := ws_split t hL
  obtain ⟨R1, R2, rfl, b1, b2⟩ := ws_split t hR
  have s1 : ∀ l ∈ L1, ∀ r ∈ R2, leT l r := fun l hl r hr => leT_trans (a1 l hl) (lt_le (b2 r hr))
  have s2 : ∀ r ∈ R1, ∀ l ∈ L2, ordT r l < 0 := fun r hr l hl => le_lt_trans (b1 r hr) (a2 l hl)
  rw [mergeF_split _ _ _ _ s1 s2, insB_split b1 b2]
  have e : R1 ++ t :: R2 = (R1 ++ [t]) ++ R2 := by simp
  rw [e, mergeF_split _ _ _ _ s1 (fun r hr l hl => by
    rcases List.mem_append.1 hr with hr | hr
    · exact s2 r hr l hl
    · rw [List.mem_singleton.1 hr]; exact a2 l hl)]
  have e2 : mergeF L1 (R1 ++ [t]) = mergeF L1 R1 ++ [t] := by
    have := mergeF_split L1 R1 [] [t] (fun l hl r hr => by rw [List.mem_singleton.1 hr]; exact a1 l hl) (by simp)
    rw [List.append_nil] at this
    rw [this]
    rfl
  rw [e2, insB_split]
  · simp
  · intro x hx
    rcases mem_mergeF.1 hx with hx | hx
    · exact a1 x hx
    · exact b1 x hx
  · intro x hx
    rcases mem_mergeF.1 hx with hx | hx
    · exact a2 x hx
    · exact b2 x hx

/-! ### insertion sort -/
theorem isortF_append : ∀ (l m P : List Tm), isortF P (l ++ m) = isortF (isortF P l) m
  | [], m, P => rfl
  | t :: l, m, P => by rw [List.cons_append, isortF, isortF, isortF_append l]
theorem isortF_snoc (l P : List Tm) (t : Tm) : isortF P (l ++ [t]) = insB (isortF P l) t := by rw [isortF_append]; rfl
theorem ws_isortF : ∀ {l P : List Tm}, WS P → WS (isortF P l)
  | [], P, h => h
  | t :: l, P, h => by rw [isortF]; exact ws_isortF (ws_insB t h)
theorem ws_isort (l : List Tm) : WS (isortF [] l) := ws_isortF List.Pairwise.nil
theorem mem_isortF {x : Tm} : ∀ {l P : List Tm}, x ∈ isortF P l ↔ x ∈ P ∨ x ∈ l
  | [], P => by simp [isortF]
  | t :: l, P => by
    rw [isortF, mem_isortF, mem_insB, List.mem_cons]
    constructor
    · rintro ((h | h) | h)
      · exact .inl h
      · exact .inr (.inl h)
      · exact .inr (.inr h)
    · rintro (h | h | h)
      · exact .inl (.inl h)
      · exact .inl (.inr h)
      · exact .inr h
theorem isortF_merge {S : List Tm} (hS : WS S) (B : List Tm) : isortF S B = mergeF S (isortF [] B) := by
  have key : ∀ (n : Nat) (B : List Tm), B.length = n → isortF S B = mergeF S (isortF [] B) := by
    intro n
    induction n with
    | zero =>
      intro B hn
      have : B = [] := List.length_eq_zero_iff.1 hn
      subst this
      rw [isortF, isortF, mergeF_nil]
    | succ n ih =>
      intro B hn
      rcases List.eq_nil_or_concat B with rfl | ⟨Q, x, hQ⟩
      · simp at hn
      · rw [List.concat_eq_append] at hQ
        subst hQ
        rw [isortF_snoc, isortF_snoc, ih Q (by simp at hn; omega), insB_merge x hS (ws_isort Q)]
  exact key _ B rfl
theorem merge_isort (A B : List Tm) : mergeF (isortF [] A) (isortF [] B) = isortF [] (A ++ B) := by
  rw [isortF_append, isortF_merge (ws_isort A)]
theorem isort_length (l : List Tm) : (isortF [] l).length = l.length := by rw [isortF_length]; simp

/-! ### blocks in order -/
inductive Blk (bs : Nat) : List Tm → List Tm → Prop
  | last {l : List Tm} : l.length < bs → Blk bs l (isortF [] l)
  | step {l1 l2 d2 : List Tm} : l1.length = bs → Blk bs l2 d2 → Blk bs (l1 ++ l2) (isortF [] l1 ++ d2)
theorem Blk.len {bs : Nat} {l d : List Tm} (h : Blk bs l d) : d.length = l.length := by
  induction h with
  | last h => exact isort_length _
  | step h _ ih => rw [List.length_append, List.length_append, isort_length, ih]
theorem Blk.short {bs : Nat} {l d : List Tm} (h : Blk bs l d) (hl : l.length < bs) : d = isortF [] l := by
  cases h with
  | last _ => rfl
  | step h1 h2 => rw [List.length_append] at hl; omega
theorem Blk.cut {bs : Nat} {l d : List Tm} (h : Blk bs l d) (hl : bs ≤ l.length) : ∃ l1 l2 d2, l = l1 ++ l2 ∧ d = isortF [] l1 ++ d2 ∧ l1.length = bs ∧ Blk bs l2 d2 := by
  cases h with
  | last h => omega
  | step h1 h2 => exact ⟨_, _, _, rfl, rfl, h1, h2⟩
theorem Blk.done {bs : Nat} {l d : List Tm} (h : Blk bs l d) (h0 : 0 < bs) (hl : l.length ≤ bs) : d = isortF [] l := by
  by_cases he : l.length < bs
  · exact h.short he
  · obtain ⟨l1, l2, d2, rfl, rfl, h1, h2⟩ := h.cut (by omega)
    have : l2 = [] := by rw [List.length_append] at hl he; exact List.length_eq_zero_iff.1 (by omega)
    subst this
    rw [h2.short (by simpa using h0)]
    simp [isortF]
end Go.Proofs.Ytaimceodhhgnnaa
