/- Lists of terms, plain law: what they sum up to decides a list in order without zeros; no condition beyond stated ranges. -/
import Derived.Test.YtaimceodhhgnnaaT28
import Derived.Test.YtaimceodhhgnnaaT18
namespace Go.Proofs.Ytaimceodhhgnnaa
open Go.Ab
set_option linter.unusedSimpArgs false
set_option linter.unusedVariables false

/-! ### numbers modulo 2^64 -/
def cg (a b : Int) : Prop := (18446744073709551616 : Int) ∣ a - b
def inR (a : Int) : Prop := -9223372036854775808 ≤ a ∧ a < 9223372036854775808
theorem cg.refl (a : Int) : cg a a := ⟨0, by omega⟩
theorem cg.of_eq {a b : Int} (h : a = b) : cg a b := h ▸ cg.refl a
theorem cg.symm {a b : Int} (h : cg a b) : cg b a := by obtain ⟨k, h⟩ := h; exact ⟨-k, by omega⟩
theorem cg.trans {a b c : Int} (h : cg a b) (g : cg b c) : cg a c := by obtain ⟨k, h⟩ := h; obtain ⟨m, g⟩ := g; exact ⟨k + m, by omega⟩
theorem cg.add {a b c d : Int} (h : cg a b) (g : cg c d) : cg (a + c) (b + d) := by obtain ⟨k, h⟩ := h; obtain ⟨m, g⟩ := g; exact ⟨k + m, by omega⟩
theorem cg.sub {a b c d : Int} (h : cg a b) (g : cg c d) : cg (a - c) (b - d) := by obtain ⟨k, h⟩ := h; obtain ⟨m, g⟩ := g; exact ⟨k - m, by omega⟩
theorem cg.mul {a b c d : Int} (h : cg a b) (g : cg c d) : cg (a * c) (b * d) := by
  obtain ⟨k, h⟩ := h
  obtain ⟨m, g⟩ := g
  refine ⟨k * c + b * m, ?_⟩
  have e : a * c - b * d = (a - b) * c + b * (c - d) := by rw [Int.sub_mul, Int.mul_sub]; omega
  rw [e, h, g, Int.mul_add, Int.mul_assoc, Int.mul_left_comm b]
theorem cg_W (a : Int) : cg (W a) a := by
  unfold W
  rw [IntKind.wrap_i64]
  refine ⟨-((a + 9223372036854775808) / 18446744073709551616), ?_⟩
  omega
theorem W_in (a : Int) : inR (W a) := by
  unfold W inR
  rw [IntKind.wrap_i64]
  omega
theorem cg.eq {a b : Int} (h : cg a b) (h1 : inR a) (h2 : inR b) : a = b := by
  obtain ⟨k, h⟩ := h
  unfold inR at *
  omega
theorem W_of_in {a : Int} (h : inR a) : W a = a := (cg_W a).eq (W_in a) h

/-! ### what terms sum up to at the exponents of one -/
def cs (k : Tm) : List Tm → Int
  | [] => 0
  | t :: l => (if ordT t k = 0 then t.c else 0) + cs k l
theorem cs_append (k : Tm) : ∀ l m : List Tm, cs k (l ++ m) = cs k l + cs k m
  | [], m => by simp [cs]
  | t :: l, m => by rw [List.cons_append, cs, cs, cs_append k l]; omega
theorem cs_reverse (k : Tm) : ∀ l : List Tm, cs k l.reverse = cs k l
  | [] => rfl
  | t :: l => by rw [List.reverse_cons, cs_append, cs_reverse k l]; simp only [cs]; omega
theorem cs_zero {k : Tm} : ∀ {l : List Tm}, (∀ t ∈ l, ordT t k ≠ 0) → cs k l = 0
  | [], _ => rfl
  | t :: l, h => by rw [cs, if_neg (h t (by simp)), cs_zero (fun x hx => h x (by simp [hx]))]; rfl
theorem cs_insRev (k t : Tm) : ∀ l : List Tm, cs k (insRev t l) = cs k (t :: l)
  | [] => rfl
  | x :: l => by
    unfold insRev
    split
    · simp only [cs]
      rw [cs_insRev k t l]
      simp only [cs]
      omega
    · rfl
theorem cs_insB (k t : Tm) (l : List Tm) : cs k (insB l t) = cs k l + cs k [t] := by
  unfold insB
  rw [cs_reverse, cs_insRev, cs, cs_reverse]
  simp only [cs]
  omega
theorem cs_isortF (k : Tm) : ∀ l P : List Tm, cs k (isortF P l) = cs k P + cs k l
  | [], P => by simp [isortF, cs]
  | t :: l, P => by rw [isortF, cs_isortF k l, cs_insB]; simp only [cs]; omega
theorem ordT_c (o k : Tm) (c : Int) : ordT { o with c := c } k = ordT o k := rfl
theorem ord_same {o t k : Tm} (h : ordT o t = 0) : (ordT o k = 0 ↔ ordT t k = 0) := by
  rw [ordT_zero] at h
  rw [ordT_zero, ordT_zero]
  omega
theorem cs_mrgS (k : Tm) : ∀ (l Q : List Tm) (o : Tm), cg (cs k (mrgS Q o l)) (cs k (Q ++ [o]) + cs k l)
  | [], Q, o => cg.of_eq (by simp [mrgS, cs])
  | t :: l, Q, o => by
    unfold mrgS
    by_cases h : ordT o t = 0
    · rw [if_pos h]
      refine (cs_mrgS k l Q _).trans ?_
      rw [cs_append, cs_append]
      simp only [cs, ordT_c]
      have h2 := ord_same (k := k) h
      by_cases h3 : ordT o k = 0
      · rw [if_pos h3, if_pos (h2.1 h3)]
        have := cg_W (o.c + t.c)
        obtain ⟨m, hm⟩ := this
        exact ⟨m, by omega⟩
      · rw [if_neg h3, if_neg (fun h4 => h3 (h2.2 h4))]
        exact cg.of_eq (by omega)
    · rw [if_neg h]
      refine (cs_mrgS k l (Q ++ [o]) t).trans (cg.of_eq ?_)
      rw [cs_append]
      simp only [cs]
      omega
theorem cs_mrg (k : Tm) (l : List Tm) : cg (cs k (mrg l)) (cs k l) := by
  cases l with
  | nil => exact cg.refl _
  | cons t l =>
    refine (cs_mrgS k l [] t).trans (cg.of_eq ?_)
    simp only [List.nil_append, cs]
    omega
theorem cs_nzF (k : Tm) : ∀ l : List Tm, cs k (nzF l) = cs k l
  | [] => rfl
  | t :: l => by
    have e : nzF (t :: l) = if t.c = 0 then nzF l else t :: nzF l := by
      by_cases h : t.c = 0 <;> simp [nzF, h]
    rw [e]
    by_cases h : t.c = 0
    · rw [if_pos h, cs_nzF k l, cs, h]
      split <;> omega
    · rw [if_neg h, cs, cs_nzF k l, cs]
theorem cs_coll (k : Tm) (l : List Tm) : cg (cs k (coll l)) (cs k l) := by
  unfold coll
  rw [cs_nzF]
  refine (cs_mrg k _).trans (cg.of_eq ?_)
  rw [cs_isortF]
  simp [cs]

/-! ### lists in order without zeros -/
structure Can (l : List Tm) : Prop where
  sor : Sor l
  nz : ∀ t ∈ l, t.c ≠ 0 ∧ inR t.c
theorem Can.nil : Can [] := ⟨List.Pairwise.nil, by simp⟩
theorem sor_mrgS : ∀ (l Q : List Tm) (o : Tm), Sor (Q ++ [o]) → WS (o :: l) → Sor (mrgS Q o l)
  | [], Q, o, h, _ => h
  | t :: l, Q, o, h, hw => by
    obtain ⟨w1, w2⟩ := List.pairwise_cons.1 hw
    unfold mrgS
    by_cases he : ordT o t = 0
    · rw [if_pos he]
      refine sor_mrgS l Q _ ?_ ?_
      · obtain ⟨s1, s2, s3⟩ := List.pairwise_append.1 h
        exact List.pairwise_append.2 ⟨s1, List.pairwise_singleton _ _, fun a ha b hb => by rw [List.mem_singleton.1 hb]; exact s3 a ha o (by simp)⟩
      · exact List.pairwise_cons.2 ⟨fun a ha => w1 a (by simp [ha]), (List.pairwise_cons.1 w2).2⟩
    · rw [if_neg he]
      have hlt : ordT o t < 0 := by
        have h1 := w1 t (by simp)
        have h2 := ordT_neg o t
        unfold leT at h1
        omega
      refine sor_mrgS l _ _ ?_ w2
      obtain ⟨s1, s2, s3⟩ := List.pairwise_append.1 h
      refine List.pairwise_append.2 ⟨h, List.pairwise_singleton _ _, fun a ha b hb => ?_⟩
      rw [List.mem_singleton.1 hb]
      rcases List.mem_append.1 ha with ha | ha
      · exact ordT_trans (s3 a ha o (by simp)) hlt
      · rw [List.mem_singleton.1 ha]; exact hlt
theorem in_mrgS : ∀ (l Q : List Tm) (o : Tm), (∀ t ∈ Q ++ [o], inR t.c) → (∀ t ∈ l, inR t.c) → ∀ t ∈ mrgS Q o l, inR t.c
  | [], Q, o, h, _ => h
  | t :: l, Q, o, h, hl => by
    unfold mrgS
    split
    · refine in_mrgS l Q _ (fun x hx => ?_) (fun x hx => hl x (by simp [hx]))
      rcases List.mem_append.1 hx with hx | hx
      · exact h x (by simp [hx])
      · rw [List.mem_singleton.1 hx]; exact W_in _
    · refine in_mrgS l _ _ (fun x hx => ?_) (fun x hx => hl x (by simp [hx]))
      rcases List.mem_append.1 hx with hx | hx
      · exact h x hx
      · rw [List.mem_singleton.1 hx]; exact hl t (by simp)
theorem can_coll {l : List Tm} (h : ∀ t ∈ l, inR t.c) : Can (coll l) := by
  have hw := ws_isort l
  have hi : ∀ t ∈ isortF [] l, inR t.c := fun t ht => h t (by
    rcases mem_isortF.1 ht with ht | ht
    · simp at ht
    · exact ht)
  unfold coll
  generalize isortF [] l = m at hw hi
  have h1 : Sor (mrg m) ∧ ∀ t ∈ mrg m, inR t.c := by
    cases m with
    | nil => exact ⟨List.Pairwise.nil, by simp [mrg]⟩
    | cons t m => exact ⟨sor_mrgS m [] t (List.pairwise_singleton _ _) hw, in_mrgS m [] t (fun x hx => hi x (by simpa using .inl (List.mem_singleton.1 (by simpa using hx)))) (fun x hx => hi x (by simp [hx]))⟩
  refine ⟨h1.1.sublist List.filter_sublist, fun t ht => ?_⟩
  obtain ⟨g1, g2⟩ := List.mem_filter.1 ht
  exact ⟨by simpa using g2, h1.2 t g1⟩
theorem Can.uniq : ∀ {l m : List Tm}, Can l → Can m → (∀ k, cg (cs k l) (cs k m)) → l = m
  | [], [], _, _, _ => rfl
  | [], b :: m, _, hm, h => by
    exfalso
    obtain ⟨s1, s2⟩ := List.pairwise_cons.1 hm.sor
    have hk := h b
    have hz : cs b m = 0 := cs_zero fun t ht => by have := s1 t ht; have := ordT_neg b t; omega
    have hb : ordT b b = 0 := by rw [ordT_zero]; simp
    rw [cs, cs, if_pos hb, hz] at hk
    have hn := hm.nz b (by simp)
    have := hk.eq (by unfold inR; omega) (by have := hn.2; unfold inR at *; omega)
    omega
  | a :: l, [], hl, _, h => by
    exfalso
    obtain ⟨s1, s2⟩ := List.pairwise_cons.1 hl.sor
    have hk := h a
    have hz : cs a l = 0 := cs_zero fun t ht => by have := s1 t ht; have := ordT_neg a t; omega
    have hb : ordT a a = 0 := by rw [ordT_zero]; simp
    rw [cs, cs, if_pos hb, hz] at hk
    have hn := hl.nz a (by simp)
    have := hk.eq (by have := hn.2; unfold inR at *; omega) (by unfold inR; omega)
    omega
  | a :: l, b :: m, hl, hm, h => by
    obtain ⟨s1, s2⟩ := List.pairwise_cons.1 hl.sor
    obtain ⟨r1, r2⟩ := List.pairwise_cons.1 hm.sor
    have haa : ordT a a = 0 := by rw [ordT_zero]; simp
    have hbb : ordT b b = 0 := by rw [ordT_zero]; simp
    have hza : cs a l = 0 := cs_zero fun t ht => by have := s1 t ht; have := ordT_neg a t; omega
    have hzb : cs b m = 0 := cs_zero fun t ht => by have := r1 t ht; have := ordT_neg b t; omega
    have na := hl.nz a (by simp)
    have nb := hm.nz b (by simp)
    rcases Int.lt_trichotomy (ordT a b) 0 with h1 | h1 | h1
    · exfalso
      have hk := h a
      have hz : cs a (b :: m) = 0 := cs_zero fun t ht => by
        have : ordT a t < 0 := by
          rcases List.mem_cons.1 ht with rfl | ht
          · exact h1
          · exact ordT_trans h1 (r1 t ht)
        have := ordT_neg a t
        omega
      rw [cs, if_pos haa, hza, hz] at hk
      have := hk.eq (by have := na.2; unfold inR at *; omega) (by unfold inR; omega)
      omega
    · have hc : a.c = b.c := by
        have hk := h a
        have h2 : ordT b a = 0 := by have := ordT_neg a b; omega
        have hz : cs a m = 0 := cs_zero fun t ht => by
          have h3 := r1 t ht
          have h4 := (ord_same (k := t) h1)
          have h5 := ordT_neg b t
          have h6 := ordT_neg a t
          omega
        rw [cs, cs, if_pos haa, if_pos h2, hza, hz] at hk
        have := hk.eq (by have := na.2; unfold inR at *; omega) (by have := nb.2; unfold inR at *; omega)
        omega
      have hab : a = b := by
        obtain ⟨e1, e2, e3⟩ := (ordT_zero a b).1 h1
        cases a
        cases b
        simp only at *
        subst e1 e2 e3 hc
        rfl
      subst hab
      have ht : l = m := Can.uniq ⟨s2, fun t ht => hl.nz t (by simp [ht])⟩ ⟨r2, fun t ht => hm.nz t (by simp [ht])⟩ (fun k => by
        have hk := h k
        rw [cs, cs] at hk
        have := hk.sub (cg.refl (if ordT a k = 0 then a.c else 0))
        exact ((cg.of_eq (by omega)).trans this).trans (cg.of_eq (by omega)))
      rw [ht]
    · exfalso
      have hk := h b
      have h2 : ordT b a < 0 := by have := ordT_neg a b; omega
      have hz : cs b (a :: l) = 0 := cs_zero fun t ht => by
        have : ordT b t < 0 := by
          rcases List.mem_cons.1 ht with rfl | ht
          · exact h2
          · exact ordT_trans h2 (s1 t ht)
        have := ordT_neg b t
        omega
      rw [hz, cs, if_pos hbb, hzb] at hk
      have := hk.eq (by unfold inR; omega) (by have := nb.2; unfold inR at *; omega)
      omega

/-! ### a term put where it belongs -/
def putF (t : Tm) : List Tm → List Tm
  | [] => if t.c = 0 then [] else [t]
  | x :: l => if ordT x t < 0 then x :: putF t l else if ordT x t = 0 then (if W (t.c + x.c) = 0 then l else { t with c := W (t.c + x.c) } :: l) else if t.c = 0 then x :: l else t :: x :: l
theorem mem_putF {t y : Tm} : ∀ {l : List Tm}, y ∈ putF t l → y ∈ l ∨ ordT y t = 0
  | [], h => by
    unfold putF at h
    split at h
    · simp at h
    · rw [List.mem_singleton.1 h]; exact .inr (by rw [ordT_zero]; simp)
  | x :: l, h => by
    unfold putF at h
    split at h
    · rcases List.mem_cons.1 h with rfl | h
      · exact .inl (by simp)
      · rcases mem_putF h with h | h
        · exact .inl (by simp [h])
        · exact .inr h
    · split at h
      · split at h
        · exact .inl (by simp [h])
        · rcases List.mem_cons.1 h with rfl | h
          · exact .inr (by rw [ordT_zero]; simp)
          · exact .inl (by simp [h])
      · split at h
        · exact .inl h
        · rcases List.mem_cons.1 h with rfl | h
          · exact .inr (by rw [ordT_zero]; simp)
          · exact .inl h
theorem Can.put {t : Tm} (ht : inR t.c) : ∀ {l : List Tm}, Can l → Can (putF t l)
  | [], _ => by
    unfold putF
    split
    · exact Can.nil
    · rename_i h
      exact ⟨List.pairwise_singleton _ _, fun x hx => by rw [List.mem_singleton.1 hx]; exact ⟨h, ht⟩⟩
  | x :: l, hl => by
    obtain ⟨s1, s2⟩ := List.pairwise_cons.1 hl.sor
    have hl' : Can l := ⟨s2, fun t ht => hl.nz t (by simp [ht])⟩
    have ih := Can.put ht hl'
    unfold putF
    split
    · rename_i hlt
      refine ⟨List.pairwise_cons.2 ⟨fun y hy => ?_, ih.sor⟩, fun y hy => ?_⟩
      · rcases mem_putF hy with hy | hy
        · exact s1 y hy
        · have e1 := ordT_lt x t
          have e2 := ordT_lt x y
          have e3 := ordT_zero y t
          omega
      · rcases List.mem_cons.1 hy with rfl | hy
        · exact hl.nz y (by simp)
        · exact ih.nz y hy
    · rename_i hge
      split
      · rename_i he
        split
        · exact hl'
        · rename_i hw
          refine ⟨List.pairwise_cons.2 ⟨fun y hy => ?_, s2⟩, fun y hy => ?_⟩
          · rw [ordT_c]
            have e1 := ordT_lt x y
            have e2 := ordT_lt t y
            have e3 := ordT_zero x t
            have := s1 y hy
            omega
          · rcases List.mem_cons.1 hy with rfl | hy
            · exact ⟨hw, W_in _⟩
            · exact hl'.nz y hy
      · rename_i hne
        split
        · exact hl
        · rename_i hc
          have hlt : ordT t x < 0 := by have := ordT_neg x t; omega
          refine ⟨List.pairwise_cons.2 ⟨fun y hy => ?_, hl.sor⟩, fun y hy => ?_⟩
          · rcases List.mem_cons.1 hy with rfl | hy
            · exact hlt
            · exact ordT_trans hlt (s1 y hy)
          · rcases List.mem_cons.1 hy with rfl | hy
            · exact ⟨hc, ht⟩
            · exact hl.nz y hy
theorem cs_putF (k t : Tm) : ∀ l : List Tm, cg (cs k (putF t l)) (cs k l + cs k [t])
  | [] => by
    unfold putF
    split
    · rename_i h
      refine cg.of_eq ?_
      simp only [cs, h]
      split <;> omega
    · exact cg.of_eq (by simp [cs])
  | x :: l => by
    unfold putF
    split
    · have ih := cs_putF k t l
      obtain ⟨m, hm⟩ := ih
      refine ⟨m, ?_⟩
      simp only [cs] at hm ⊢
      omega
    · split
      · rename_i he
        have h2 := ord_same (k := k) he
        have hw := cg_W (t.c + x.c)
        obtain ⟨m, hm⟩ := hw
        split
        · rename_i h0
          simp only [cs]
          by_cases h3 : ordT x k = 0
          · rw [if_pos h3, if_pos (h2.1 h3)]
            exact ⟨m, by omega⟩
          · rw [if_neg h3, if_neg (fun h4 => h3 (h2.2 h4))]
            exact cg.of_eq (by omega)
        · simp only [cs, ordT_c]
          by_cases h3 : ordT x k = 0
          · rw [if_pos h3, if_pos (h2.1 h3)]
            exact ⟨m, by omega⟩
          · rw [if_neg h3, if_neg (fun h4 => h3 (h2.2 h4))]
            exact cg.of_eq (by omega)
      · split
        · rename_i h0
          refine cg.of_eq ?_
          simp only [cs, h0]
          split <;> split <;> omega
        · refine cg.of_eq ?_
          simp only [cs]
          omega
theorem putF_length (t : Tm) : ∀ l : List Tm, (putF t l).length ≤ l.length + 1
  | [] => by unfold putF; split <;> simp
  | x :: l => by
    have ih := putF_length t l
    unfold putF
    split
    · simp; omega
    · split
      · split <;> simp <;> omega
      · split <;> simp
end Go.Proofs.Ytaimceodhhgnnaa
