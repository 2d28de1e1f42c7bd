/- Systems of polynomials, part 18 of the walk: the specification's insertion of a term whose exponents are new; and that it is the sorting; no condition beyond stated lengths. -/
import Derived.Test.YtaimceodhhgnnaaT17
import Derived.Test.YtaimceodhhgnnaaT12
namespace Go.Proofs.Ytaimceodhhgnnaa
open Go.Ab
set_option linter.unusedSimpArgs false
set_option linter.unusedVariables false

/-- a term put in from the front -/
def insF (t : Tm) : List Tm → List Tm
  | [] => [t]
  | x :: l => if ordT x t < 0 then x :: insF t l else t :: x :: l
/-- where it goes -/
def posF (t : Tm) : List Tm → Nat
  | [] => 0
  | x :: l => if ordT x t < 0 then posF t l + 1 else 0
theorem insF_pos (t : Tm) : ∀ l : List Tm, insF t l = l.take (posF t l) ++ t :: l.drop (posF t l)
  | [] => rfl
  | x :: l => by
    unfold insF posF
    split
    · rw [insF_pos t l]; simp
    · simp
theorem posF_le (t : Tm) : ∀ l : List Tm, posF t l ≤ l.length
  | [] => Nat.le_refl _
  | x :: l => by
    unfold posF
    split
    · have := posF_le t l; simp; omega
    · simp
theorem insF_length (t : Tm) (l : List Tm) : (insF t l).length = l.length + 1 := by
  have := posF_le t l
  rw [insF_pos, List.length_append, List.length_cons, List.length_take, List.length_drop]
  omega
theorem mem_insF {t x : Tm} {l : List Tm} : x ∈ insF t l ↔ x = t ∨ x ∈ l := by
  induction l with
  | nil => simp [insF]
  | cons y l ih =>
    unfold insF
    split
    · simp [ih]; constructor <;> (intro h; rcases h with h | h | h <;> simp [h])
    · simp

/-- strict order as a relation of all pairs -/
def Sor (l : List Tm) : Prop := l.Pairwise fun a b => ordT a b < 0
theorem Sor.sorted {l : List Tm} (h : Sor l) : Sorted l := fun i hi => List.pairwise_iff_getElem.1 h i (i + 1) (by omega) hi (Nat.lt_succ_self _)
theorem Sorted.sor : ∀ {l : List Tm}, Sorted l → Sor l
  | [], _ => List.Pairwise.nil
  | [a], _ => List.pairwise_singleton _ _
  | a :: b :: l, h => by
    have h1 : Sor (b :: l) := Sorted.sor (fun i hi => h (i + 1) (by simpa using hi))
    have h0 : ordT a b < 0 := h 0 (by simp)
    refine List.Pairwise.cons (fun c hc => ?_) h1
    rcases List.mem_cons.1 hc with rfl | hc
    · exact h0
    · exact ordT_trans h0 (List.rel_of_pairwise_cons h1 hc)
theorem Sor.ins {t : Tm} : ∀ {l : List Tm}, Sor l → (∀ x ∈ l, ordT x t ≠ 0) → Sor (insF t l)
  | [], _, _ => List.pairwise_singleton _ _
  | x :: l, h, hne => by
    obtain ⟨h1, h2⟩ := List.pairwise_cons.1 h
    unfold insF
    split
    · rename_i hlt
      refine List.Pairwise.cons (fun y hy => ?_) (Sor.ins h2 (fun y hy => hne y (by simp [hy])))
      rcases mem_insF.1 hy with rfl | hy
      · exact hlt
      · exact h1 y hy
    · rename_i hge
      have hx : ordT t x < 0 := by
        have := hne x (by simp)
        have := ordT_neg x t
        omega
      refine List.Pairwise.cons (fun y hy => ?_) h
      rcases List.mem_cons.1 hy with rfl | hy
      · exact hx
      · exact ordT_trans hx (h1 y hy)
/-- from the front and from behind it is the same -/
theorem insF_snoc {t x : Tm} : ∀ {l : List Tm}, Sor (l ++ [x]) → ordT x t ≠ 0 → insF t (l ++ [x]) = if ordT t x < 0 then insF t l ++ [x] else l ++ [x, t]
  | [], _, hne => by
    have := ordT_neg x t
    simp only [List.nil_append, insF]
    by_cases h : ordT t x < 0
    · rw [if_pos h, if_neg (by omega)]; rfl
    · rw [if_neg h, if_pos (by omega)]
  | y :: l, h, hne => by
    obtain ⟨h1, h2⟩ := List.pairwise_cons.1 (show List.Pairwise _ (y :: (l ++ [x])) from h)
    have ih := insF_snoc (t := t) (l := l) h2 hne
    have hyx : ordT y x < 0 := h1 x (by simp)
    simp only [List.cons_append, insF]
    rw [ih]
    by_cases hy : ordT y t < 0
    · rw [if_pos hy, if_pos hy]
      split <;> rfl
    · rw [if_neg hy, if_neg hy]
      by_cases hx : ordT t x < 0
      · rw [if_pos hx]; rfl
      · have hxt : ordT x t < 0 := by have := ordT_neg x t; omega
        exact absurd (ordT_trans hyx hxt) hy
theorem insB_insF {t : Tm} : ∀ (n : Nat) (l : List Tm), l.length = n → Sor l → (∀ x ∈ l, ordT x t ≠ 0) → insB l t = insF t l
  | 0, l, hl, _, _ => by
    have : l = [] := List.length_eq_zero_iff.1 hl
    subst this; rfl
  | n + 1, l, hl, hs, hne => by
    rcases List.eq_nil_or_concat l with rfl | ⟨l0, x, hle⟩
    · simp at hl
    · rw [List.concat_eq_append] at hle
      subst hle
      have hs0 : Sor l0 := (List.pairwise_append.1 hs).1
      rw [insF_snoc hs (hne x (by simp))]
      by_cases h : ordT t x < 0
      · rw [insB_lt h, if_pos h, insB_insF n l0 (by simp at hl; omega) hs0 (fun y hy => hne y (by simp [hy]))]
      · rw [insB_ge h, if_neg h]
/-- all put in, one after another -/
def insAll : List Tm → List Tm → List Tm
  | S, [] => S
  | S, t :: l => insAll (insF t S) l
theorem insAll_snoc (t : Tm) : ∀ (l S : List Tm), insAll S (l ++ [t]) = insF t (insAll S l)
  | [], S => rfl
  | x :: l, S => by rw [List.cons_append, insAll, insAll, insAll_snoc t l]
theorem mem_insAll {x : Tm} : ∀ {l S : List Tm}, x ∈ insAll S l ↔ x ∈ S ∨ x ∈ l
  | [], S => by simp [insAll]
  | t :: l, S => by
    rw [insAll, mem_insAll, mem_insF, List.mem_cons]
    constructor
    · rintro ((h | h) | h)
      · exact .inr (.inl h)
      · exact .inl h
      · exact .inr (.inr h)
    · rintro (h | h | h)
      · exact .inl (.inr h)
      · exact .inl (.inl h)
      · exact .inr h
theorem insAll_length : ∀ (l S : List Tm), (insAll S l).length = S.length + l.length
  | [], S => by simp [insAll]
  | t :: l, S => by rw [insAll, insAll_length l, insF_length, List.length_cons]; omega
/-- no two have the same exponents -/
def Dist (l : List Tm) : Prop := l.Pairwise fun a b => ordT a b ≠ 0
theorem insAll_sor : ∀ {l S : List Tm}, Sor S → Dist l → (∀ x ∈ S, ∀ y ∈ l, ordT x y ≠ 0) → Sor (insAll S l) ∧ isortF S l = insAll S l
  | [], S, h, _, _ => ⟨h, rfl⟩
  | t :: l, S, h, hd, hne => by
    obtain ⟨h1, h2⟩ := List.pairwise_cons.1 hd
    have hS : Sor (insF t S) := h.ins (fun x hx => hne x hx t (by simp))
    have hne2 : ∀ x ∈ insF t S, ∀ y ∈ l, ordT x y ≠ 0 := by
      intro x hx y hy
      rcases mem_insF.1 hx with rfl | hx
      · exact h1 y hy
      · exact hne x hx y (by simp [hy])
    obtain ⟨g1, g2⟩ := insAll_sor hS h2 hne2
    refine ⟨g1, ?_⟩
    rw [isortF, insAll, insB_insF _ S rfl h (fun x hx => hne x hx t (by simp))]
    exact g2

theorem slcT {H : AHeap} {s : Value} {l : List Tm} (h : SlT H s l) {k : Nat} (hk : k ≤ l.length) :
    (∃ v, slcV 4 s none (some (.int .i64 k)) none = some v ∧ SlT H v (l.take k)) ∧ ∃ v, slcV 4 s (some (.int .i64 k)) none none = some v ∧ SlT H v (l.drop k) := by
  have cut : ∀ (i j : Nat), i ≤ j → j ≤ l.length → ((tcs l).drop (i * 4)).take ((j - i) * 4) = tcs ((l.drop i).take (j - i)) := by
    intro i j hij hj
    have e : l = l.take i ++ ((l.drop i).take (j - i) ++ (l.drop i).drop (j - i)) := by rw [List.take_append_drop, List.take_append_drop]
    have e2 : tcs l = tcs (l.take i) ++ (tcs ((l.drop i).take (j - i)) ++ tcs ((l.drop i).drop (j - i))) := by rw [← tcs_append, ← tcs_append, ← e]
    rw [e2, List.drop_append, List.drop_of_length_le (by rw [tcs_length]; simp; omega), List.nil_append, tcs_length]
    have : i * 4 - (l.take i).length * 4 = 0 := by simp; omega
    rw [this, List.drop_zero, List.take_append_of_le_length (by rw [tcs_length]; simp; omega), List.take_of_length_le (by rw [tcs_length]; simp; omega)]
  refine ⟨?_, ?_⟩
  · obtain ⟨v, h1, h2⟩ := Sl.slc h (i := 0) (j := k) (lo := none) (hi := some (.int .i64 k)) (Nat.zero_le _) hk (.inl ⟨rfl, rfl⟩) (.inr ⟨.i64, rfl⟩)
    refine ⟨v, h1, ?_⟩
    rw [cut 0 k (Nat.zero_le _) hk] at h2
    unfold SlT
    simp only [List.drop_zero, Nat.sub_zero] at h2
    have : (l.take k).length = k := by simp; omega
    rw [this]
    exact h2
  · obtain ⟨v, h1, h2⟩ := Sl.slc h (i := k) (j := l.length) (lo := some (.int .i64 k)) (hi := none) hk (Nat.le_refl _) (.inr ⟨.i64, rfl⟩) (.inl ⟨rfl, rfl⟩)
    refine ⟨v, h1, ?_⟩
    rw [cut k l.length hk (Nat.le_refl _)] at h2
    unfold SlT
    have e1 : (l.drop k).take (l.length - k) = l.drop k := List.take_of_length_le (by simp)
    rw [e1] at h2
    have : (l.drop k).length = l.length - k := by simp
    rw [this]
    exact h2

theorem posF_step {t : Tm} : ∀ {l : List Tm} {k : Nat} (hk : k < l.length), k ≤ posF t l → (if ordT l[k] t < 0 then k + 1 ≤ posF t l else k = posF t l)
  | [], k, hk, _ => by simp at hk
  | x :: l, 0, hk, h => by
    simp only [List.getElem_cons_zero]
    unfold posF
    by_cases hx : ordT x t < 0
    · rw [if_pos hx, if_pos hx]; omega
    · rw [if_neg hx, if_neg hx]
  | x :: l, k + 1, hk, h => by
    simp only [List.getElem_cons_succ]
    have hx : ordT x t < 0 := by
      by_cases hx : ordT x t < 0
      · exact hx
      · unfold posF at h
        rw [if_neg hx] at h
        omega
    have h' : k ≤ posF t l := by unfold posF at h; rw [if_pos hx] at h; omega
    have := posF_step (t := t) (l := l) (k := k) (by simpa using hk) h'
    unfold posF
    rw [if_pos hx]
    split
    · rename_i h2; rw [if_pos h2] at this; omega
    · rename_i h2; rw [if_neg h2] at this; omega

theorem poPut_ok (lim : Nat) (s : Value) (l : List Tm) (t : Tm) (H : AHeap) (hl : lim ≤ H.next) (hs : SlT H s l) (hn : l.length ≤ 10000) (hok : ∀ x ∈ l, okTm x = true) (ht : okTm t = true) (hc : t.c ≠ 0) (hne : ∀ x ∈ l, ordT x t ≠ 0) :
    ACalls Try.prog lim n_spec_poPut [s, tv t] H fun v H' => ∃ b, H.next ≤ b ∧ b ≤ H'.next ∧ VecT H' b v (insF t l) ∧ Ext H H' := by
  refine is_spec_poPut.go rfl ?_
  unfold c_spec_poPut
  refine s_reg ?_
  simp only [o_cont, o_callT, callV_fn, o_pure, o_eff, o_callF, o_callN, o_guard, gk_tt, gk_ff, gk_tf, gk_ft, gk_u, t_op, t_alt, t_nil, o_nil, POp.ev, Opd.ev, EOp.ev, env0, gu, gv, setD, resV, List.set, List.map, List.map_nil, List.map_cons, Option.map_none, Option.map_some, Option.some.injEq, exists_eq_left', pickV, binV, convV, load1V, max2V, min2V, nilchkV, unV, boolEq, isNilV, fadV, extV, slenV, ne_eq, not_true_eq_false, if_false, if_true, ite_true, ite_false, Bool.false_eq_true, Bool.true_eq_false, beq_true, beq_false, beq_self_eq_true, Bool.not_true, Bool.not_false, reduceCtorEq, List.getElem?_toArray, List.getElem?_cons_zero, List.getElem?_cons_succ, boxT]
  have hB := BoxT.mk' H t
  generalize H.alloc (tc t) = H1 at hB ⊢
  generalize hpe : H.next = p at hB hl ⊢
  have hpl := posF_le t l
  refine s_reg ?_
  simp only [o_cont, o_callT, callV_fn, o_pure, o_eff, o_callF, o_callN, o_guard, gk_tt, gk_ff, gk_tf, gk_ft, gk_u, t_op, t_alt, t_nil, o_nil, POp.ev, Opd.ev, EOp.ev, env0, gu, gv, setD, resV, List.set, List.map, List.map_nil, List.map_cons, Option.map_none, Option.map_some, Option.some.injEq, exists_eq_left', pickV, binV, convV, load1V, max2V, min2V, nilchkV, unV, boolEq, isNilV, fadV, extV, slenV, ne_eq, not_true_eq_false, if_false, if_true, ite_true, ite_false, Bool.false_eq_true, Bool.true_eq_false, beq_true, beq_false, beq_self_eq_true, Bool.not_true, Bool.not_false, reduceCtorEq, List.getElem?_toArray, List.getElem?_cons_zero, List.getElem?_cons_succ]
  refine s_cut (fun e' H' => BoxT H H' p t ∧ e' = [s, tv t, .pointer (some ⟨p, 0, none⟩), .slice none 0 0, .int .i64 (posF t l), undef, undef]) ?_ ?_
  · refine s_block1 ?_
    refine s_loop1 (fun j e' H' => ∃ k : Nat, k + j = l.length ∧ k ≤ posF t l ∧ BoxT H H' p t ∧ e' = [s, tv t, .pointer (some ⟨p, 0, none⟩), .slice none 0 0, .int .i64 k, undef, undef]) l.length ⟨0, by omega, Nat.zero_le _, hB, rfl⟩ ?_
    clear hB
    rintro j e' H2 ⟨k, hkj, hkp, hB, rfl⟩
    have hs2 := hs.ext hB.ext
    refine s_test ?_
    by_cases hk : k < l.length
    · have d1 : decide ((k : Int) < (l.length : Int)) = true := decide_eq_true (by omega)
      obtain ⟨b1, o1, h1, a1⟩ := hs2.at hk
      have hst := posF_step (t := t) hk hkp
      simp only [o_cont, o_callT, callV_fn, o_pure, o_eff, o_callF, o_callN, o_guard, gk_tt, gk_ff, gk_tf, gk_ft, gk_u, t_op, t_alt, t_nil, o_nil, POp.ev, Opd.ev, EOp.ev, env0, gu, gv, setD, resV, List.set, List.map, List.map_nil, List.map_cons, Option.map_none, Option.map_some, Option.some.injEq, exists_eq_left', pickV, binV, convV, load1V, max2V, min2V, nilchkV, unV, boolEq, isNilV, fadV, extV, slenV, ne_eq, not_true_eq_false, if_false, if_true, ite_true, ite_false, Bool.false_eq_true, Bool.true_eq_false, beq_true, beq_false, beq_self_eq_true, Bool.not_true, Bool.not_false, reduceCtorEq, List.getElem?_toArray, List.getElem?_cons_zero, List.getElem?_cons_succ, hs.lenV, d1, h1, a1.all, hB.all]
      refine (poOrder_ok _ _ _ _ (hok _ (List.getElem_mem hk)) ht).mono ?_
      rintro _ H3 ⟨rfl, hx3⟩
      have hB3 := hB.mono hx3
      simp only [o_cont, o_callT, callV_fn, o_pure, o_eff, o_callF, o_callN, o_guard, gk_tt, gk_ff, gk_tf, gk_ft, gk_u, t_op, t_alt, t_nil, o_nil, POp.ev, Opd.ev, EOp.ev, env0, gu, gv, setD, resV, List.set, List.map, List.map_nil, List.map_cons, Option.map_none, Option.map_some, Option.some.injEq, exists_eq_left', pickV, binV, convV, load1V, max2V, min2V, nilchkV, unV, boolEq, isNilV, fadV, extV, slenV, ne_eq, not_true_eq_false, if_false, if_true, ite_true, ite_false, Bool.false_eq_true, Bool.true_eq_false, beq_true, beq_false, beq_self_eq_true, Bool.not_true, Bool.not_false, reduceCtorEq, List.getElem?_toArray, List.getElem?_cons_zero, List.getElem?_cons_succ]
      refine Test.split (fun hg => ?_) (fun hg => ?_)
      · have hlt : ordT l[k] t < 0 := by simpa using hg
        rw [if_pos hlt] at hst
        refine s_skip1 ?_
        simp +decide only [p_seq_normal, p_seq_ret, p_seq_exit, p_block_normal, p_block_ret, p_block_exit, p_fin_ret, p_fin_normal, reduceIte, Nat.reduceEqDiff, resV, resOne, resL, gv, Option.some.injEq, exists_eq_left', Option.bind_some, Option.map_some, List.getD_cons_zero, List.getD_cons_succ]
        refine s_block1 ?_
        refine s_reg1 ?_
        simp only [o_cont, o_callT, callV_fn, o_pure, o_eff, o_callF, o_callN, o_guard, gk_tt, gk_ff, gk_tf, gk_ft, gk_u, t_op, t_alt, t_nil, o_nil, POp.ev, Opd.ev, EOp.ev, env0, gu, gv, setD, resV, List.set, List.map, List.map_nil, List.map_cons, Option.map_none, Option.map_some, Option.some.injEq, exists_eq_left', pickV, binV, convV, load1V, max2V, min2V, nilchkV, unV, boolEq, isNilV, fadV, extV, slenV, ne_eq, not_true_eq_false, if_false, if_true, ite_true, ite_false, Bool.false_eq_true, Bool.true_eq_false, beq_true, beq_false, beq_self_eq_true, Bool.not_true, Bool.not_false, reduceCtorEq, List.getElem?_toArray, List.getElem?_cons_zero, List.getElem?_cons_succ, add1 (i := k) (by omega)]
        simp +decide only [p_seq_normal, p_seq_ret, p_seq_exit, p_block_normal, p_block_ret, p_block_exit, p_fin_ret, p_fin_normal, reduceIte, Nat.reduceEqDiff, resV, resOne, resL, gv, Option.some.injEq, exists_eq_left', Option.bind_some, Option.map_some, List.getD_cons_zero, List.getD_cons_succ]
        exact Round.mk (j - 1) (by omega) ⟨k + 1, by omega, hst, hB3, rfl⟩
      · have hge3 : ¬ ordT l[k] t < 0 := by simpa using hg
        rw [if_neg hge3] at hst
        refine s_exit1 ?_
        simp +decide only [p_seq_normal, p_seq_ret, p_seq_exit, p_block_normal, p_block_ret, p_block_exit, p_fin_ret, p_fin_normal, reduceIte, Nat.reduceEqDiff, resV, resOne, resL, gv, Option.some.injEq, exists_eq_left', Option.bind_some, Option.map_some, List.getD_cons_zero, List.getD_cons_succ]
        rw [← hst]
        exact ⟨hB3, rfl⟩
    · have d1 : decide ((k : Int) < (l.length : Int)) = false := decide_eq_false (by omega)
      simp only [o_cont, o_callT, callV_fn, o_pure, o_eff, o_callF, o_callN, o_guard, gk_tt, gk_ff, gk_tf, gk_ft, gk_u, t_op, t_alt, t_nil, o_nil, POp.ev, Opd.ev, EOp.ev, env0, gu, gv, setD, resV, List.set, List.map, List.map_nil, List.map_cons, Option.map_none, Option.map_some, Option.some.injEq, exists_eq_left', pickV, binV, convV, load1V, max2V, min2V, nilchkV, unV, boolEq, isNilV, fadV, extV, slenV, ne_eq, not_true_eq_false, if_false, if_true, ite_true, ite_false, Bool.false_eq_true, Bool.true_eq_false, beq_true, beq_false, beq_self_eq_true, Bool.not_true, Bool.not_false, reduceCtorEq, List.getElem?_toArray, List.getElem?_cons_zero, List.getElem?_cons_succ, hs.lenV, d1]
      refine Test.false_ (s_exit1 ?_)
      simp +decide only [p_seq_normal, p_seq_ret, p_seq_exit, p_block_normal, p_block_ret, p_block_exit, p_fin_ret, p_fin_normal, reduceIte, Nat.reduceEqDiff, resV, resOne, resL, gv, Option.some.injEq, exists_eq_left', Option.bind_some, Option.map_some, List.getD_cons_zero, List.getD_cons_succ]
      have : k = posF t l := by omega
      rw [← this]
      exact ⟨hB, rfl⟩
  clear hB
  rintro e'' H3 ⟨hB3, rfl⟩
  have hge := hB3.ge
  have hnx3 := hB3.ext.next
  have hs3 := hs.ext hB3.ext
  obtain ⟨⟨v1, m1, m2⟩, v2, m3, m4⟩ := slcT hs3 hpl
  refine s_reg ?_
  simp only [o_cont, o_callT, callV_fn, o_pure, o_eff, o_callF, o_callN, o_guard, gk_tt, gk_ff, gk_tf, gk_ft, gk_u, t_op, t_alt, t_nil, o_nil, POp.ev, Opd.ev, EOp.ev, env0, gu, gv, setD, resV, List.set, List.map, List.map_nil, List.map_cons, Option.map_none, Option.map_some, Option.some.injEq, exists_eq_left', pickV, binV, convV, load1V, max2V, min2V, nilchkV, unV, boolEq, isNilV, fadV, extV, slenV, ne_eq, not_true_eq_false, if_false, if_true, ite_true, ite_false, Bool.false_eq_true, Bool.true_eq_false, beq_true, beq_false, beq_self_eq_true, Bool.not_true, Bool.not_false, reduceCtorEq, List.getElem?_toArray, List.getElem?_cons_zero, List.getElem?_cons_succ, m3]
  refine s_test_I false (Ext H3) ?_ (fun H4 hx4 hg0 => by cases hg0) (fun H4 hx4 _ => ?_)
  · by_cases hk : posF t l < l.length
    · have d1 : decide ((posF t l : Int) < (l.length : Int)) = true := decide_eq_true (by omega)
      obtain ⟨b1, o1, h1, a1⟩ := hs3.at hk
      have hze : (ordT l[posF t l] t == 0) = false := by simpa using hne _ (List.getElem_mem hk)
      simp only [o_cont, o_callT, callV_fn, o_pure, o_eff, o_callF, o_callN, o_guard, gk_tt, gk_ff, gk_tf, gk_ft, gk_u, t_op, t_alt, t_nil, o_nil, POp.ev, Opd.ev, EOp.ev, env0, gu, gv, setD, resV, List.set, List.map, List.map_nil, List.map_cons, Option.map_none, Option.map_some, Option.some.injEq, exists_eq_left', pickV, binV, convV, load1V, max2V, min2V, nilchkV, unV, boolEq, isNilV, fadV, extV, slenV, ne_eq, not_true_eq_false, if_false, if_true, ite_true, ite_false, Bool.false_eq_true, Bool.true_eq_false, beq_true, beq_false, beq_self_eq_true, Bool.not_true, Bool.not_false, reduceCtorEq, List.getElem?_toArray, List.getElem?_cons_zero, List.getElem?_cons_succ, hs.lenV, d1, h1, a1.all, hB3.all]
      refine (poOrder_ok _ _ _ _ (hok _ (List.getElem_mem hk)) ht).mono ?_
      rintro _ H4 ⟨rfl, hx4⟩
      simp only [o_cont, o_callT, callV_fn, o_pure, o_eff, o_callF, o_callN, o_guard, gk_tt, gk_ff, gk_tf, gk_ft, gk_u, t_op, t_alt, t_nil, o_nil, POp.ev, Opd.ev, EOp.ev, env0, gu, gv, setD, resV, List.set, List.map, List.map_nil, List.map_cons, Option.map_none, Option.map_some, Option.some.injEq, exists_eq_left', pickV, binV, convV, load1V, max2V, min2V, nilchkV, unV, boolEq, isNilV, fadV, extV, slenV, ne_eq, not_true_eq_false, if_false, if_true, ite_true, ite_false, Bool.false_eq_true, Bool.true_eq_false, beq_true, beq_false, beq_self_eq_true, Bool.not_true, Bool.not_false, reduceCtorEq, List.getElem?_toArray, List.getElem?_cons_zero, List.getElem?_cons_succ, hze]
      exact ⟨trivial, trivial, hx4⟩
    · have d1 : decide ((posF t l : Int) < (l.length : Int)) = false := decide_eq_false (by omega)
      simp only [o_cont, o_callT, callV_fn, o_pure, o_eff, o_callF, o_callN, o_guard, gk_tt, gk_ff, gk_tf, gk_ft, gk_u, t_op, t_alt, t_nil, o_nil, POp.ev, Opd.ev, EOp.ev, env0, gu, gv, setD, resV, List.set, List.map, List.map_nil, List.map_cons, Option.map_none, Option.map_some, Option.some.injEq, exists_eq_left', pickV, binV, convV, load1V, max2V, min2V, nilchkV, unV, boolEq, isNilV, fadV, extV, slenV, ne_eq, not_true_eq_false, if_false, if_true, ite_true, ite_false, Bool.false_eq_true, Bool.true_eq_false, beq_true, beq_false, beq_self_eq_true, Bool.not_true, Bool.not_false, reduceCtorEq, List.getElem?_toArray, List.getElem?_cons_zero, List.getElem?_cons_succ, hs.lenV, d1]
      exact ⟨trivial, trivial, Ext.refl _⟩
  have hB4 := hB3.mono hx4
  have hnx4 := hx4.next
  refine s_skip1 ?_
  simp +decide only [p_seq_normal, p_seq_ret, p_seq_exit, p_block_normal, p_block_ret, p_block_exit, p_fin_ret, p_fin_normal, reduceIte, Nat.reduceEqDiff, resV, resOne, resL, gv, Option.some.injEq, exists_eq_left', Option.bind_some, Option.map_some, List.getD_cons_zero, List.getD_cons_succ]
  obtain ⟨v5, H5, b5, g1, g2, g3, g4, g5⟩ := own_terms (lim := lim) (by omega) (m2.ext hx4) (by simp; omega)
  have hB5 := hB4.mono g5
  refine s_reg ?_
  simp only [o_cont, o_callT, callV_fn, o_pure, o_eff, o_callF, o_callN, o_guard, gk_tt, gk_ff, gk_tf, gk_ft, gk_u, t_op, t_alt, t_nil, o_nil, POp.ev, Opd.ev, EOp.ev, env0, gu, gv, setD, resV, List.set, List.map, List.map_nil, List.map_cons, Option.map_none, Option.map_some, Option.some.injEq, exists_eq_left', pickV, binV, convV, load1V, max2V, min2V, nilchkV, unV, boolEq, isNilV, fadV, extV, slenV, ne_eq, not_true_eq_false, if_false, if_true, ite_true, ite_false, Bool.false_eq_true, Bool.true_eq_false, beq_true, beq_false, beq_self_eq_true, Bool.not_true, Bool.not_false, reduceCtorEq, List.getElem?_toArray, List.getElem?_cons_zero, List.getElem?_cons_succ, bslice0, m1, g1]
  have hcne : (t.c != 0) = true := by simpa using hc
  obtain ⟨v6, H6, b6, q1, q2, q3, q4, q5⟩ := pushT (lim := lim) g2 t (by omega) (by simp; omega)
  refine s_cut (fun e' H' => H' = H6 ∧ e' = [s, tv t, .pointer (some ⟨p, 0, none⟩), .slice none 0 0, .int .i64 (posF t l), v2, v6]) ?_ ?_
  · refine s_test1 ?_
    simp only [o_cont, o_callT, callV_fn, o_pure, o_eff, o_callF, o_callN, o_guard, gk_tt, gk_ff, gk_tf, gk_ft, gk_u, t_op, t_alt, t_nil, o_nil, POp.ev, Opd.ev, EOp.ev, env0, gu, gv, setD, resV, List.set, List.map, List.map_nil, List.map_cons, Option.map_none, Option.map_some, Option.some.injEq, exists_eq_left', pickV, binV, convV, load1V, max2V, min2V, nilchkV, unV, boolEq, isNilV, fadV, extV, slenV, ne_eq, not_true_eq_false, if_false, if_true, ite_true, ite_false, Bool.false_eq_true, Bool.true_eq_false, beq_true, beq_false, beq_self_eq_true, Bool.not_true, Bool.not_false, reduceCtorEq, List.getElem?_toArray, List.getElem?_cons_zero, List.getElem?_cons_succ, Nat.zero_add, hB5.c0, hcne]
    refine Test.true_ (s_reg1 ?_)
    simp only [o_cont, o_callT, callV_fn, o_pure, o_eff, o_callF, o_callN, o_guard, gk_tt, gk_ff, gk_tf, gk_ft, gk_u, t_op, t_alt, t_nil, o_nil, POp.ev, Opd.ev, EOp.ev, env0, gu, gv, setD, resV, List.set, List.map, List.map_nil, List.map_cons, Option.map_none, Option.map_some, Option.some.injEq, exists_eq_left', pickV, binV, convV, load1V, max2V, min2V, nilchkV, unV, boolEq, isNilV, fadV, extV, slenV, ne_eq, not_true_eq_false, if_false, if_true, ite_true, ite_false, Bool.false_eq_true, Bool.true_eq_false, beq_true, beq_false, beq_self_eq_true, Bool.not_true, Bool.not_false, reduceCtorEq, List.getElem?_toArray, List.getElem?_cons_zero, List.getElem?_cons_succ, hB5.all, bsliceT, q1]
    simp +decide only [p_seq_normal, p_seq_ret, p_seq_exit, p_block_normal, p_block_ret, p_block_exit, p_fin_ret, p_fin_normal, reduceIte, Nat.reduceEqDiff, resV, resOne, resL, gv, Option.some.injEq, exists_eq_left', Option.bind_some, Option.map_some, List.getD_cons_zero, List.getD_cons_succ]
  rintro e'' H6' ⟨rfl, rfl⟩
  have hx6 : Ext H4 H6' := Chg.ext g5 q5 g3
  have hb6 : H4.next ≤ b6 := by rcases q3 with rfl | q3; exact g3; have := g5.next; omega
  obtain ⟨v7, H7, b7, r1, r2, r3, r4, r5⟩ := appendT (lim := lim) q2 ((m4.ext hx4).ext hx6) (by omega) (by simp; omega)
  have hx7 : Ext H4 H7 := Chg.ext hx6 r5 hb6
  have hb7 : H4.next ≤ b7 := by rcases r3 with rfl | r3; exact hb6; have := hx6.next; omega
  have hlt7 := r4 (by simp)
  refine s_reg ?_
  simp only [o_cont, o_callT, callV_fn, o_pure, o_eff, o_callF, o_callN, o_guard, gk_tt, gk_ff, gk_tf, gk_ft, gk_u, t_op, t_alt, t_nil, o_nil, POp.ev, Opd.ev, EOp.ev, env0, gu, gv, setD, resV, List.set, List.map, List.map_nil, List.map_cons, Option.map_none, Option.map_some, Option.some.injEq, exists_eq_left', pickV, binV, convV, load1V, max2V, min2V, nilchkV, unV, boolEq, isNilV, fadV, extV, slenV, ne_eq, not_true_eq_false, if_false, if_true, ite_true, ite_false, Bool.false_eq_true, Bool.true_eq_false, beq_true, beq_false, beq_self_eq_true, Bool.not_true, Bool.not_false, reduceCtorEq, List.getElem?_toArray, List.getElem?_cons_zero, List.getElem?_cons_succ, r1]
  refine s_ret1 ?_
  simp +decide only [p_seq_normal, p_seq_ret, p_seq_exit, p_block_normal, p_block_ret, p_block_exit, p_fin_ret, p_fin_normal, reduceIte, Nat.reduceEqDiff, resV, resOne, resL, gv, Option.some.injEq, exists_eq_left', Option.bind_some, Option.map_some, List.getD_cons_zero, List.getD_cons_succ]
  refine ⟨b7, by omega, by omega, ?_, (hB3.ext.trans hx4).trans hx7⟩
  rw [insF_pos]
  simpa using r2
end Go.Proofs.Ytaimceodhhgnnaa
