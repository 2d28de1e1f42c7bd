/- Systems of polynomials, part 8 of the walk: the implementation's test of a system, its copy and its swapped system; no condition beyond stated lengths. -/
import Derived.Test.YtaimceodhhgnnaaT7
namespace Go.Proofs.Ytaimceodhhgnnaa
open Go.Ab
set_option linter.unusedSimpArgs false
set_option linter.unusedVariables false

theorem degF_pos (k : Int) : ∀ (p : List Tm) (m : Int), decide (degF k m p > 0) = (decide (m > 0) || p.any fun t => decide (pw t k > 0))
  | [], m => by simp [degF]
  | t :: l, m => by
    rw [degF, degF_pos k l, List.any_cons, ← Bool.or_assoc]
    congr 1
    by_cases h : m > pw t k
    · rw [if_pos h]
      by_cases h2 : m > 0
      · simp [h2]
      · have : ¬ pw t k > 0 := by omega
        simp [h2, this]
    · rw [if_neg h]
      by_cases h2 : pw t k > 0
      · simp [h2]
      · have : ¬ m > 0 := by omega
        simp [h2, this]
theorem needF_eq (n : Nat) : ∀ p : List Tm, needF n p = ((decide (n > 0) || !p.any fun t => decide (t.x > 0)) && (decide (n > 1) || !p.any fun t => decide (t.y > 0)) && (decide (n > 2) || !p.any fun t => decide (t.z > 0)))
  | [] => by simp [needF]
  | t :: l => by
    have e0 : decide ((0 : Int) ≥ (n : Int)) = !decide (n > 0) := by by_cases h : n > 0 <;> simp [h] <;> omega
    have e1 : decide ((1 : Int) ≥ (n : Int)) = !decide (n > 1) := by by_cases h : n > 1 <;> simp [h] <;> omega
    have e2 : decide ((2 : Int) ≥ (n : Int)) = !decide (n > 2) := by by_cases h : n > 2 <;> simp [h] <;> omega
    rw [needF, needF_eq n l, expF, e0, e1, e2]
    simp only [List.any_cons]
    generalize decide (n > 0) = a
    generalize decide (n > 1) = b
    generalize decide (n > 2) = c
    generalize decide (t.x > 0) = x
    generalize decide (t.y > 0) = y
    generalize decide (t.z > 0) = z
    generalize (l.any fun t => decide (t.x > 0)) = u
    generalize (l.any fun t => decide (t.y > 0)) = v
    generalize (l.any fun t => decide (t.z > 0)) = w
    revert a b c x y z u v w
    decide
theorem need_from (n : Nat) (p : List Tm) : needF n p = fromB n p := by
  rw [needF_eq, fromB, degF_pos, degF_pos, degF_pos]
  simp [pw]

theorem isSystem_ok (lim : Nat) (s : Value) (ss : List (List Tm)) (H : AHeap) (hl : lim ≤ H.next) (hs : SlSS H s ss) (hn : ss.length ≤ 1000000) (hn2 : ∀ p ∈ ss, p.length ≤ 1000000) : ACalls Try.prog lim n_impl_isSystem [s] H fun v H' => v = .bool (goodSS ss) ∧ Ext H H' := by
  refine is_impl_isSystem.go rfl ?_
  unfold c_impl_isSystem
  refine s_reg ?_
  simp only [o_cont, o_callT, callV_fn, o_pure, o_eff, o_callF, o_callN, o_guard, gk_tt, gk_ff, gk_tf, gk_ft, gk_u, t_op, t_alt, t_nil, o_nil, POp.ev, Opd.ev, EOp.ev, env0, gu, gv, setD, resV, List.set, List.map, List.map_nil, List.map_cons, Option.map_none, Option.map_some, Option.some.injEq, exists_eq_left', pickV, binV, convV, load1V, max2V, min2V, nilchkV, unV, boolEq, isNilV, fadV, extV, slenV, ne_eq, not_true_eq_false, if_false, if_true, ite_true, ite_false, Bool.false_eq_true, Bool.true_eq_false, beq_true, beq_false, beq_self_eq_true, Bool.not_true, Bool.not_false, reduceCtorEq, List.getElem?_toArray, List.getElem?_cons_zero, List.getElem?_cons_succ]
  refine s_assoc (s_reg ?_)
  simp only [o_cont, o_callT, callV_fn, o_pure, o_eff, o_callF, o_callN, o_guard, gk_tt, gk_ff, gk_tf, gk_ft, gk_u, t_op, t_alt, t_nil, o_nil, POp.ev, Opd.ev, EOp.ev, env0, gu, gv, setD, resV, List.set, List.map, List.map_nil, List.map_cons, Option.map_none, Option.map_some, Option.some.injEq, exists_eq_left', pickV, binV, convV, load1V, max2V, min2V, nilchkV, unV, boolEq, isNilV, fadV, extV, slenV, ne_eq, not_true_eq_false, if_false, if_true, ite_true, ite_false, Bool.false_eq_true, Bool.true_eq_false, beq_true, beq_false, beq_self_eq_true, Bool.not_true, Bool.not_false, reduceCtorEq, List.getElem?_toArray, List.getElem?_cons_zero, List.getElem?_cons_succ, hs.lenV]
  refine s_block ?_
  refine s_loop1 (fun j e' H' => ∃ (i : Nat) (x : Value), i + j = ss.length ∧ sysF ss.length ss = sysF ss.length (ss.drop i) ∧ Ext H H' ∧ e' = [s, .bool false, x, s, .int .i64 ss.length, .int .i64 i]) ss.length ⟨0, _, by omega, rfl, Ext.refl _, rfl⟩ ?_
  rintro j e' H' ⟨i, x, hik, hall, hx, rfl⟩
  have hnx := hx.next
  refine s_test ?_
  simp only [o_cont, o_callT, callV_fn, o_pure, o_eff, o_callF, o_callN, o_guard, gk_tt, gk_ff, gk_tf, gk_ft, gk_u, t_op, t_alt, t_nil, o_nil, POp.ev, Opd.ev, EOp.ev, env0, gu, gv, setD, resV, List.set, List.map, List.map_nil, List.map_cons, Option.map_none, Option.map_some, Option.some.injEq, exists_eq_left', pickV, binV, convV, load1V, max2V, min2V, nilchkV, unV, boolEq, isNilV, fadV, extV, slenV, ne_eq, not_true_eq_false, if_false, if_true, ite_true, ite_false, Bool.false_eq_true, Bool.true_eq_false, beq_true, beq_false, beq_self_eq_true, Bool.not_true, Bool.not_false, reduceCtorEq, List.getElem?_toArray, List.getElem?_cons_zero, List.getElem?_cons_succ]
  refine Test.split (fun hlt => ?_) (fun hlt => ?_)
  · have hlt' : i < ss.length := by simpa using hlt
    obtain ⟨b1, o1, s1, h1, h2, h3⟩ := (hs.ext hx).at hlt'
    have hpl := hn2 _ (List.getElem_mem hlt')
    rw [List.drop_eq_getElem_cons hlt', sysF] at hall
    refine s_skip1 ?_
    simp +decide only [p_seq_normal, p_seq_ret, p_seq_exit, p_block_normal, p_block_ret, p_block_exit, p_fin_ret, p_fin_normal, reduceIte, Nat.reduceEqDiff, resV, resOne, resL, gv, Option.some.injEq, exists_eq_left', Option.bind_some, Option.map_some, List.getD_cons_zero, List.getD_cons_succ]
    refine s_block ?_
    refine s_reg ?_
    simp only [o_cont, o_callT, callV_fn, o_pure, o_eff, o_callF, o_callN, o_guard, gk_tt, gk_ff, gk_tf, gk_ft, gk_u, t_op, t_alt, t_nil, o_nil, POp.ev, Opd.ev, EOp.ev, env0, gu, gv, setD, resV, List.set, List.map, List.map_nil, List.map_cons, Option.map_none, Option.map_some, Option.some.injEq, exists_eq_left', pickV, binV, convV, load1V, max2V, min2V, nilchkV, unV, boolEq, isNilV, fadV, extV, slenV, ne_eq, not_true_eq_false, if_false, if_true, ite_true, ite_false, Bool.false_eq_true, Bool.true_eq_false, beq_true, beq_false, beq_self_eq_true, Bool.not_true, Bool.not_false, reduceCtorEq, List.getElem?_toArray, List.getElem?_cons_zero, List.getElem?_cons_succ, h1, h2]
    refine s_test1_I (!(goodP ss[i] && fromB ss.length ss[i])) (Ext H') ?_ (fun H2 hx2 hg => ?_) (fun H2 hx2 hg => ?_)
    · simp only [o_cont, o_callT, callV_fn, o_pure, o_eff, o_callF, o_callN, o_guard, gk_tt, gk_ff, gk_tf, gk_ft, gk_u, t_op, t_alt, t_nil, o_nil, POp.ev, Opd.ev, EOp.ev, env0, gu, gv, setD, resV, List.set, List.map, List.map_nil, List.map_cons, Option.map_none, Option.map_some, Option.some.injEq, exists_eq_left', pickV, binV, convV, load1V, max2V, min2V, nilchkV, unV, boolEq, isNilV, fadV, extV, slenV, ne_eq, not_true_eq_false, if_false, if_true, ite_true, ite_false, Bool.false_eq_true, Bool.true_eq_false, beq_true, beq_false, beq_self_eq_true, Bool.not_true, Bool.not_false, reduceCtorEq, List.getElem?_toArray, List.getElem?_cons_zero, List.getElem?_cons_succ]
      refine (isPoly_ok lim _ _ _ (by omega) h3 (by omega)).mono ?_
      rintro _ H2 ⟨rfl, hx2⟩
      have hnx2 := hx2.next
      cases hgp : goodP ss[i]
      · simp only [o_cont, o_callT, callV_fn, o_pure, o_eff, o_callF, o_callN, o_guard, gk_tt, gk_ff, gk_tf, gk_ft, gk_u, t_op, t_alt, t_nil, o_nil, POp.ev, Opd.ev, EOp.ev, env0, gu, gv, setD, resV, List.set, List.map, List.map_nil, List.map_cons, Option.map_none, Option.map_some, Option.some.injEq, exists_eq_left', pickV, binV, convV, load1V, max2V, min2V, nilchkV, unV, boolEq, isNilV, fadV, extV, slenV, ne_eq, not_true_eq_false, if_false, if_true, ite_true, ite_false, Bool.false_eq_true, Bool.true_eq_false, beq_true, beq_false, beq_self_eq_true, Bool.not_true, Bool.not_false, reduceCtorEq, List.getElem?_toArray, List.getElem?_cons_zero, List.getElem?_cons_succ]
        simp [hx2]
      · simp only [o_cont, o_callT, callV_fn, o_pure, o_eff, o_callF, o_callN, o_guard, gk_tt, gk_ff, gk_tf, gk_ft, gk_u, t_op, t_alt, t_nil, o_nil, POp.ev, Opd.ev, EOp.ev, env0, gu, gv, setD, resV, List.set, List.map, List.map_nil, List.map_cons, Option.map_none, Option.map_some, Option.some.injEq, exists_eq_left', pickV, binV, convV, load1V, max2V, min2V, nilchkV, unV, boolEq, isNilV, fadV, extV, slenV, ne_eq, not_true_eq_false, if_false, if_true, ite_true, ite_false, Bool.false_eq_true, Bool.true_eq_false, beq_true, beq_false, beq_self_eq_true, Bool.not_true, Bool.not_false, reduceCtorEq, List.getElem?_toArray, List.getElem?_cons_zero, List.getElem?_cons_succ, hs.lenV]
        refine (needs_ok lim _ _ _ _ (by omega) (h3.ext hx2) (by omega)).mono ?_
        rintro _ H3 ⟨rfl, hx3⟩
        simp only [o_cont, o_callT, callV_fn, o_pure, o_eff, o_callF, o_callN, o_guard, gk_tt, gk_ff, gk_tf, gk_ft, gk_u, t_op, t_alt, t_nil, o_nil, POp.ev, Opd.ev, EOp.ev, env0, gu, gv, setD, resV, List.set, List.map, List.map_nil, List.map_cons, Option.map_none, Option.map_some, Option.some.injEq, exists_eq_left', pickV, binV, convV, load1V, max2V, min2V, nilchkV, unV, boolEq, isNilV, fadV, extV, slenV, ne_eq, not_true_eq_false, if_false, if_true, ite_true, ite_false, Bool.false_eq_true, Bool.true_eq_false, beq_true, beq_false, beq_self_eq_true, Bool.not_true, Bool.not_false, reduceCtorEq, List.getElem?_toArray, List.getElem?_cons_zero, List.getElem?_cons_succ, need_from]
        simp [hx2.trans hx3]
    · refine s_reg ?_
      simp only [o_cont, o_callT, callV_fn, o_pure, o_eff, o_callF, o_callN, o_guard, gk_tt, gk_ff, gk_tf, gk_ft, gk_u, t_op, t_alt, t_nil, o_nil, POp.ev, Opd.ev, EOp.ev, env0, gu, gv, setD, resV, List.set, List.map, List.map_nil, List.map_cons, Option.map_none, Option.map_some, Option.some.injEq, exists_eq_left', pickV, binV, convV, load1V, max2V, min2V, nilchkV, unV, boolEq, isNilV, fadV, extV, slenV, ne_eq, not_true_eq_false, if_false, if_true, ite_true, ite_false, Bool.false_eq_true, Bool.true_eq_false, beq_true, beq_false, beq_self_eq_true, Bool.not_true, Bool.not_false, reduceCtorEq, List.getElem?_toArray, List.getElem?_cons_zero, List.getElem?_cons_succ]
      refine s_ret1 ?_
      simp +decide only [p_seq_normal, p_seq_ret, p_seq_exit, p_block_normal, p_block_ret, p_block_exit, p_fin_ret, p_fin_normal, reduceIte, Nat.reduceEqDiff, resV, resOne, resL, gv, Option.some.injEq, exists_eq_left', Option.bind_some, Option.map_some, List.getD_cons_zero, List.getD_cons_succ]
      simp only [Bool.not_eq_true'] at hg
      refine ⟨?_, hx.trans hx2⟩
      rw [hg, Bool.false_and] at hall
      simp [goodSS, hall]
    · refine s_skip1 ?_
      simp +decide only [p_seq_normal, p_seq_ret, p_seq_exit, p_block_normal, p_block_ret, p_block_exit, p_fin_ret, p_fin_normal, reduceIte, Nat.reduceEqDiff, resV, resOne, resL, gv, Option.some.injEq, exists_eq_left', Option.bind_some, Option.map_some, List.getD_cons_zero, List.getD_cons_succ]
      refine s_reg1 ?_
      simp only [o_cont, o_callT, callV_fn, o_pure, o_eff, o_callF, o_callN, o_guard, gk_tt, gk_ff, gk_tf, gk_ft, gk_u, t_op, t_alt, t_nil, o_nil, POp.ev, Opd.ev, EOp.ev, env0, gu, gv, setD, resV, List.set, List.map, List.map_nil, List.map_cons, Option.map_none, Option.map_some, Option.some.injEq, exists_eq_left', pickV, binV, convV, load1V, max2V, min2V, nilchkV, unV, boolEq, isNilV, fadV, extV, slenV, ne_eq, not_true_eq_false, if_false, if_true, ite_true, ite_false, Bool.false_eq_true, Bool.true_eq_false, beq_true, beq_false, beq_self_eq_true, Bool.not_true, Bool.not_false, reduceCtorEq, List.getElem?_toArray, List.getElem?_cons_zero, List.getElem?_cons_succ, add1 (i := i) (by omega)]
      simp +decide only [p_seq_normal, p_seq_ret, p_seq_exit, p_block_normal, p_block_ret, p_block_exit, p_fin_ret, p_fin_normal, reduceIte, Nat.reduceEqDiff, resV, resOne, resL, gv, Option.some.injEq, exists_eq_left', Option.bind_some, Option.map_some, List.getD_cons_zero, List.getD_cons_succ]
      simp only [Bool.not_eq_false'] at hg
      rw [hg, Bool.true_and] at hall
      exact Round.mk (j - 1) (by omega) ⟨i + 1, _, by omega, hall, hx.trans hx2, rfl⟩
  · have hge : i = ss.length := by simp at hlt; omega
    subst hge
    refine s_exit1 ?_
    simp +decide only [p_seq_normal, p_seq_ret, p_seq_exit, p_block_normal, p_block_ret, p_block_exit, p_fin_ret, p_fin_normal, reduceIte, Nat.reduceEqDiff, resV, resOne, resL, gv, Option.some.injEq, exists_eq_left', Option.bind_some, Option.map_some, List.getD_cons_zero, List.getD_cons_succ]
    refine s_reg ?_
    simp only [o_cont, o_callT, callV_fn, o_pure, o_eff, o_callF, o_callN, o_guard, gk_tt, gk_ff, gk_tf, gk_ft, gk_u, t_op, t_alt, t_nil, o_nil, POp.ev, Opd.ev, EOp.ev, env0, gu, gv, setD, resV, List.set, List.map, List.map_nil, List.map_cons, Option.map_none, Option.map_some, Option.some.injEq, exists_eq_left', pickV, binV, convV, load1V, max2V, min2V, nilchkV, unV, boolEq, isNilV, fadV, extV, slenV, ne_eq, not_true_eq_false, if_false, if_true, ite_true, ite_false, Bool.false_eq_true, Bool.true_eq_false, beq_true, beq_false, beq_self_eq_true, Bool.not_true, Bool.not_false, reduceCtorEq, List.getElem?_toArray, List.getElem?_cons_zero, List.getElem?_cons_succ, hs.lenV]
    refine (inside_ok _ _ _ _ _).eq ?_
    simp only [o_cont, o_callT, callV_fn, o_pure, o_eff, o_callF, o_callN, o_guard, gk_tt, gk_ff, gk_tf, gk_ft, gk_u, t_op, t_alt, t_nil, o_nil, POp.ev, Opd.ev, EOp.ev, env0, gu, gv, setD, resV, List.set, List.map, List.map_nil, List.map_cons, Option.map_none, Option.map_some, Option.some.injEq, exists_eq_left', pickV, binV, convV, load1V, max2V, min2V, nilchkV, unV, boolEq, isNilV, fadV, extV, slenV, ne_eq, not_true_eq_false, if_false, if_true, ite_true, ite_false, Bool.false_eq_true, Bool.true_eq_false, beq_true, beq_false, beq_self_eq_true, Bool.not_true, Bool.not_false, reduceCtorEq, List.getElem?_toArray, List.getElem?_cons_zero, List.getElem?_cons_succ]
    refine s_ret1 ?_
    simp +decide only [p_seq_normal, p_seq_ret, p_seq_exit, p_block_normal, p_block_ret, p_block_exit, p_fin_ret, p_fin_normal, reduceIte, Nat.reduceEqDiff, resV, resOne, resL, gv, Option.some.injEq, exists_eq_left', Option.bind_some, Option.map_some, List.getD_cons_zero, List.getD_cons_succ]
    refine ⟨?_, hx⟩
    rw [List.drop_length, sysF] at hall
    simp only [goodSS, hall, Bool.true_and]

theorem tot_small {l : List (List Tm)} (h : ∀ p ∈ l, p.length ≤ 20) : tot l ≤ 20 * l.length := by
  induction l with
  | nil => simp [tot]
  | cons p l ih =>
    rw [tot_cons, List.length_cons]
    have h1 := h p (by simp)
    have h2 := ih (fun q hq => h q (by simp [hq]))
    omega
end Go.Proofs.Ytaimceodhhgnnaa
