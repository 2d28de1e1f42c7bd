/- Systems of polynomials, part 10 of the walk: terms that are in order already, sorted and collected; no condition beyond stated lengths. -/
import Derived.Test.YtaimceodhhgnnaaT8
namespace Go.Proofs.Ytaimceodhhgnnaa
open Go.Ab
set_option linter.unusedSimpArgs false
set_option linter.unusedVariables false

theorem sgn3_neg (n : Int) : sgn3 (-n) = -sgn3 n := by
  unfold sgn3
  rcases Int.lt_trichotomy n 0 with h | h | h
  · rw [if_pos (by omega), if_neg (by omega), if_pos (by omega)]; omega
  · subst h; simp
  · rw [if_neg (by omega), if_pos (by omega), if_pos (by omega)]
theorem ordT_neg (a b : Tm) : ordT b a = -ordT a b := by
  unfold ordT
  have e1 : b.x - a.x = -(a.x - b.x) := by omega
  have e2 : b.y - a.y = -(a.y - b.y) := by omega
  have e3 : b.z - a.z = -(a.z - b.z) := by omega
  rw [e1, e2, e3, sgn3_neg, sgn3_neg, sgn3_neg]
  by_cases h1 : a.x = b.x
  · by_cases h2 : a.y = b.y
    · simp [h1, h2]
    · have h2' : ¬ b.y = a.y := fun h => h2 h.symm
      simp [h1, h2, h2']
  · have h1' : ¬ b.x = a.x := fun h => h1 h.symm
    simp [h1, h1']

/-- terms in strict order, none of which is 0 -/
def Sorted (l : List Tm) : Prop := ∀ (i : Nat) (h : i + 1 < l.length), ordT (l[i]'(by omega)) l[i + 1] < 0
abbrev cmpF : Value := .func (.func n_impl_compareTerms) #[] #[]

theorem collect1_ok (lim : Nat) (t : Tm) (H : AHeap) : ACalls Try.prog lim n_impl_collect_1 [tv t] H fun v H' => v = .bool (t.c == 0) ∧ Ext H H' := by
  refine is_impl_collect_1.go rfl ?_
  unfold c_impl_collect_1
  refine s_reg ?_
  simp only [o_cont, o_callT, callV_fn, o_pure, o_eff, o_callF, o_callN, o_guard, gk_tt, gk_ff, gk_tf, gk_ft, gk_u, t_op, t_alt, t_nil, o_nil, POp.ev, Opd.ev, EOp.ev, env0, gu, gv, setD, resV, List.set, List.map, List.map_nil, List.map_cons, Option.map_none, Option.map_some, Option.some.injEq, exists_eq_left', pickV, binV, convV, load1V, max2V, min2V, nilchkV, unV, boolEq, isNilV, fadV, extV, slenV, ne_eq, not_true_eq_false, if_false, if_true, ite_true, ite_false, Bool.false_eq_true, Bool.true_eq_false, beq_true, beq_false, beq_self_eq_true, Bool.not_true, Bool.not_false, reduceCtorEq, List.getElem?_toArray, List.getElem?_cons_zero, List.getElem?_cons_succ, boxT]
  have hB := BoxT.mk' H t
  generalize H.alloc (tc t) = H1 at hB ⊢
  generalize H.next = p at hB ⊢
  refine s_reg ?_
  simp only [o_cont, o_callT, callV_fn, o_pure, o_eff, o_callF, o_callN, o_guard, gk_tt, gk_ff, gk_tf, gk_ft, gk_u, t_op, t_alt, t_nil, o_nil, POp.ev, Opd.ev, EOp.ev, env0, gu, gv, setD, resV, List.set, List.map, List.map_nil, List.map_cons, Option.map_none, Option.map_some, Option.some.injEq, exists_eq_left', pickV, binV, convV, load1V, max2V, min2V, nilchkV, unV, boolEq, isNilV, fadV, extV, slenV, ne_eq, not_true_eq_false, if_false, if_true, ite_true, ite_false, Bool.false_eq_true, Bool.true_eq_false, beq_true, beq_false, beq_self_eq_true, Bool.not_true, Bool.not_false, reduceCtorEq, List.getElem?_toArray, List.getElem?_cons_zero, List.getElem?_cons_succ, Nat.zero_add, hB.c0]
  refine s_ret1 ?_
  simp +decide only [p_seq_normal, p_seq_ret, p_seq_exit, p_block_normal, p_block_ret, p_block_exit, p_fin_ret, p_fin_normal, reduceIte, Nat.reduceEqDiff, resV, resOne, resL, gv, Option.some.injEq, exists_eq_left', Option.bind_some, Option.map_some, List.getD_cons_zero, List.getD_cons_succ]
  exact ⟨trivial, hB.ext⟩

abbrev delF : Value := .func (.func n_impl_collect_1) #[] #[]
theorem vecT_nil (H : AHeap) (b : Nat) : VecT H b (.slice none 0 0) [] := Vec.nil _ _ _
/-- terms put behind a list of one's own -/
theorem appendT {lim : Nat} {H : AHeap} {b : Nat} {v x : Value} {l m : List Tm} (h : VecT H b v l) (hx : SlT H x m) (hl : lim ≤ b) (hn : l.length + m.length ≤ 1000000) :
    ∃ v' H' b', appendH lim H 4 32 v x = some (v', H') ∧ VecT H' b' v' (l ++ m) ∧ (b' = b ∨ H.next ≤ b') ∧ (l ++ m ≠ [] → b' < H'.next) ∧ Chg b H H' := by
  obtain ⟨v', H', b', h1, h2, h3, h4, h5⟩ := Vec.append h (lim := lim) hl hx (by decide) (bytes := 32) (by omega)
  have h2' : VecT H' b' v' (l ++ m) := by
    unfold VecT
    rw [List.length_append, tcs_append]
    exact h2
  refine ⟨v', H', b', h1, h2', h3.imp id fun h => by omega, fun hne => (Vec.blk h2' (fun e => hne (List.length_eq_zero_iff.1 e))).elim fun _ h => h.2, h4⟩
/-- one term put behind a list of one's own -/
theorem pushT {lim : Nat} {H : AHeap} {b : Nat} {v : Value} {l : List Tm} (h : VecT H b v l) (t : Tm) (hl : lim ≤ b) (hn : l.length ≤ 100000) :
    ∃ v' H' b', appendH lim (H.alloc (tc t)) 4 32 v (.slice (some ⟨H.next, 0, some 0⟩) 1 1) = some (v', H') ∧ VecT H' b' v' (l ++ [t]) ∧ (b' = b ∨ H.next ≤ b') ∧ b' < H'.next ∧ Chg b H H' := by
  obtain ⟨v', H', b', h1, h2, h3, h4, h5⟩ := appendT (VecT.ext h (Ext.alloc H (tc t))) (sl_one H t) hl (by simp; omega)
  exact ⟨v', H', b', h1, h2, h3.imp id fun h => Nat.le_trans (Nat.le_succ _) h, h4 (by simp), (Chg.of_ext (Ext.alloc _ _)).trans h5⟩

end Go.Proofs.Ytaimceodhhgnnaa
