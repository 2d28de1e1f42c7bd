/- Systems of polynomials: lists of terms one behind the other; no condition beyond stated lengths. -/
import Derived.Test.YtaimceodhhgnnaaT31
namespace Go.Proofs.Ytaimceodhhgnnaa
open Go.Ab
set_option linter.unusedSimpArgs false
set_option linter.unusedVariables false

theorem zerosL4 (n : Nat) : (zerosL n [.int .i64 0, .int .i64 0, .int .i64 0, .int .i64 0]).length = n * 4 := by rw [zerosL_length]; rfl
theorem growT_ok (lim n : Nat) (H : AHeap) (hl : lim ≤ H.next) (hn : n ≤ 1000000000) :
    ACalls Try.prog lim n_slices_Grow_S_impl_Term_impl_Term [.slice none 0 0, .int .i64 n] H fun v H' => VecT H' H.next v [] ∧ Ext H H' := by
  refine is_slices_Grow_S_impl_Term_impl_Term.go rfl ?_
  unfold c_slices_Grow_S_impl_Term_impl_Term
  refine s_reg ?_
  simp only [o_cont, o_callT, callV_fn, o_pure, o_eff, o_callF, o_callN, o_guard, gk_tt, gk_ff, gk_tf, gk_ft, gk_u, t_op, t_alt, t_nil, o_nil, POp.ev, Opd.ev, EOp.ev, env0, gu, gv, setD, resV, List.set, List.map, List.map_nil, List.map_cons, Option.map_none, Option.map_some, Option.some.injEq, exists_eq_left', pickV, binV, convV, load1V, max2V, min2V, nilchkV, unV, boolEq, isNilV, fadV, extV, slenV, ne_eq, not_true_eq_false, if_false, if_true, ite_true, ite_false, Bool.false_eq_true, Bool.true_eq_false, beq_true, beq_false, beq_self_eq_true, Bool.not_true, Bool.not_false, reduceCtorEq, List.getElem?_toArray, List.getElem?_cons_zero, List.getElem?_cons_succ]
  have hlt : decide ((n : Int) < 0) = false := by simp
  refine s_test ?_
  simp only [o_cont, o_callT, callV_fn, o_pure, o_eff, o_callF, o_callN, o_guard, gk_tt, gk_ff, gk_tf, gk_ft, gk_u, t_op, t_alt, t_nil, o_nil, POp.ev, Opd.ev, EOp.ev, env0, gu, gv, setD, resV, List.set, List.map, List.map_nil, List.map_cons, Option.map_none, Option.map_some, Option.some.injEq, exists_eq_left', pickV, binV, convV, load1V, max2V, min2V, nilchkV, unV, boolEq, isNilV, fadV, extV, slenV, ne_eq, not_true_eq_false, if_false, if_true, ite_true, ite_false, Bool.false_eq_true, Bool.true_eq_false, beq_true, beq_false, beq_self_eq_true, Bool.not_true, Bool.not_false, reduceCtorEq, List.getElem?_toArray, List.getElem?_cons_zero, List.getElem?_cons_succ, hlt]
  refine Test.false_ (s_skip1 ?_)
  simp +decide only [p_seq_normal, p_seq_ret, p_seq_exit, p_block_normal, p_block_ret, p_block_exit, p_fin_ret, p_fin_normal, reduceIte, Nat.reduceEqDiff, resV, resOne, resL, gv, Option.some.injEq, exists_eq_left', Option.bind_some, Option.map_some, List.getD_cons_zero, List.getD_cons_succ]
  have w0 : IntKind.i64.wrap (0 - ((0 : Nat) : Int)) = 0 := rfl
  have w1 : IntKind.i64.wrap ((n : Int) - 0) = n := by rw [IntKind.wrap_i64]; omega
  refine s_assoc (s_reg ?_)
  simp only [o_cont, o_callT, callV_fn, o_pure, o_eff, o_callF, o_callN, o_guard, gk_tt, gk_ff, gk_tf, gk_ft, gk_u, t_op, t_alt, t_nil, o_nil, POp.ev, Opd.ev, EOp.ev, env0, gu, gv, setD, resV, List.set, List.map, List.map_nil, List.map_cons, Option.map_none, Option.map_some, Option.some.injEq, exists_eq_left', pickV, binV, convV, load1V, max2V, min2V, nilchkV, unV, boolEq, isNilV, fadV, extV, slenV, ne_eq, not_true_eq_false, if_false, if_true, ite_true, ite_false, Bool.false_eq_true, Bool.true_eq_false, beq_true, beq_false, beq_self_eq_true, Bool.not_true, Bool.not_false, reduceCtorEq, List.getElem?_toArray, List.getElem?_cons_zero, List.getElem?_cons_succ, lenV, capV, w0, w1]
  refine s_test ?_
  simp only [o_cont, o_callT, callV_fn, o_pure, o_eff, o_callF, o_callN, o_guard, gk_tt, gk_ff, gk_tf, gk_ft, gk_u, t_op, t_alt, t_nil, o_nil, POp.ev, Opd.ev, EOp.ev, env0, gu, gv, setD, resV, List.set, List.map, List.map_nil, List.map_cons, Option.map_none, Option.map_some, Option.some.injEq, exists_eq_left', pickV, binV, convV, load1V, max2V, min2V, nilchkV, unV, boolEq, isNilV, fadV, extV, slenV, ne_eq, not_true_eq_false, if_false, if_true, ite_true, ite_false, Bool.false_eq_true, Bool.true_eq_false, beq_true, beq_false, beq_self_eq_true, Bool.not_true, Bool.not_false, reduceCtorEq, List.getElem?_toArray, List.getElem?_cons_zero, List.getElem?_cons_succ]
  have hgt : decide ((n : Int) > 0) = decide (0 < n) := by rw [Bool.eq_iff_iff]; simp
  rw [hgt]
  refine Test.split (fun h => ?_) (fun h => ?_)
  · have hn0 : 0 < n := by simpa using h
    have hz : appendZH H 4 32 [.int .i64 0, .int .i64 0, .int .i64 0, .int .i64 0] (.slice none 0 0) (.int .i64 n) = some (.slice (some ⟨H.next, 0, some 4⟩) n n, H.alloc (zerosL n [.int .i64 0, .int .i64 0, .int .i64 0, .int .i64 0])) := by
      simp only [appendZH]
      rw [if_pos ⟨by omega, by omega, by omega⟩]
      rfl
    have hs1 : slcV 4 (.slice none 0 0) none (some (.int .i64 0)) none = some (.slice none 0 0) := rfl
    have hs2 : slcV 4 (.slice (some ⟨H.next, 0, some 4⟩) n n) none (some (.int .i64 ((0 : Nat) : Int))) none = some (.slice (some ⟨H.next, 0, some 4⟩) 0 n) := by
      simp [slcV, bounds, sliceB, intV]
    refine s_reg1 ?_
    simp only [o_cont, o_callT, callV_fn, o_pure, o_eff, o_callF, o_callN, o_guard, gk_tt, gk_ff, gk_tf, gk_ft, gk_u, t_op, t_alt, t_nil, o_nil, POp.ev, Opd.ev, EOp.ev, env0, gu, gv, setD, resV, List.set, List.map, List.map_nil, List.map_cons, Option.map_none, Option.map_some, Option.some.injEq, exists_eq_left', pickV, binV, convV, load1V, max2V, min2V, nilchkV, unV, boolEq, isNilV, fadV, extV, slenV, ne_eq, not_true_eq_false, if_false, if_true, ite_true, ite_false, Bool.false_eq_true, Bool.true_eq_false, beq_true, beq_false, beq_self_eq_true, Bool.not_true, Bool.not_false, reduceCtorEq, List.getElem?_toArray, List.getElem?_cons_zero, List.getElem?_cons_succ, lenV, capV, hs1, hz, hs2]
    simp +decide only [p_seq_normal, p_seq_ret, p_seq_exit, p_block_normal, p_block_ret, p_block_exit, p_fin_ret, p_fin_normal, reduceIte, Nat.reduceEqDiff, resV, resOne, resL, gv, Option.some.injEq, exists_eq_left', Option.bind_some, Option.map_some, List.getD_cons_zero, List.getD_cons_succ]
    refine s_reg ?_
    simp only [o_cont, o_callT, callV_fn, o_pure, o_eff, o_callF, o_callN, o_guard, gk_tt, gk_ff, gk_tf, gk_ft, gk_u, t_op, t_alt, t_nil, o_nil, POp.ev, Opd.ev, EOp.ev, env0, gu, gv, setD, resV, List.set, List.map, List.map_nil, List.map_cons, Option.map_none, Option.map_some, Option.some.injEq, exists_eq_left', pickV, binV, convV, load1V, max2V, min2V, nilchkV, unV, boolEq, isNilV, fadV, extV, slenV, ne_eq, not_true_eq_false, if_false, if_true, ite_true, ite_false, Bool.false_eq_true, Bool.true_eq_false, beq_true, beq_false, beq_self_eq_true, Bool.not_true, Bool.not_false, reduceCtorEq, List.getElem?_toArray, List.getElem?_cons_zero, List.getElem?_cons_succ]
    refine s_ret1 ?_
    simp +decide only [p_seq_normal, p_seq_ret, p_seq_exit, p_block_normal, p_block_ret, p_block_exit, p_fin_ret, p_fin_normal, reduceIte, Nat.reduceEqDiff, resV, resOne, resL, gv, Option.some.injEq, exists_eq_left', Option.bind_some, Option.map_some, List.getD_cons_zero, List.getD_cons_succ]
    refine ⟨.inr ⟨n, some 4, zerosL n [.int .i64 0, .int .i64 0, .int .i64 0, .int .i64 0], rfl, .inr rfl, Nat.lt_succ_self _, alloc_new _ _, rfl, Nat.zero_le _, by rw [zerosL4]; simp⟩, Ext.alloc _ _⟩
  · refine s_skip1 ?_
    simp +decide only [p_seq_normal, p_seq_ret, p_seq_exit, p_block_normal, p_block_ret, p_block_exit, p_fin_ret, p_fin_normal, reduceIte, Nat.reduceEqDiff, resV, resOne, resL, gv, Option.some.injEq, exists_eq_left', Option.bind_some, Option.map_some, List.getD_cons_zero, List.getD_cons_succ]
    refine s_reg ?_
    simp only [o_cont, o_callT, callV_fn, o_pure, o_eff, o_callF, o_callN, o_guard, gk_tt, gk_ff, gk_tf, gk_ft, gk_u, t_op, t_alt, t_nil, o_nil, POp.ev, Opd.ev, EOp.ev, env0, gu, gv, setD, resV, List.set, List.map, List.map_nil, List.map_cons, Option.map_none, Option.map_some, Option.some.injEq, exists_eq_left', pickV, binV, convV, load1V, max2V, min2V, nilchkV, unV, boolEq, isNilV, fadV, extV, slenV, ne_eq, not_true_eq_false, if_false, if_true, ite_true, ite_false, Bool.false_eq_true, Bool.true_eq_false, beq_true, beq_false, beq_self_eq_true, Bool.not_true, Bool.not_false, reduceCtorEq, List.getElem?_toArray, List.getElem?_cons_zero, List.getElem?_cons_succ]
    refine s_ret1 ?_
    simp +decide only [p_seq_normal, p_seq_ret, p_seq_exit, p_block_normal, p_block_ret, p_block_exit, p_fin_ret, p_fin_normal, reduceIte, Nat.reduceEqDiff, resV, resOne, resL, gv, Option.some.injEq, exists_eq_left', Option.bind_some, Option.map_some, List.getD_cons_zero, List.getD_cons_succ]
    exact ⟨Vec.nil _ _ _, Ext.refl _⟩
theorem flatten_length_tot (ss : List (List Tm)) : ss.flatten.length = tot ss := by
  unfold tot
  rw [List.length_flatten]
theorem concatT_ok (lim : Nat) (v : Value) (ss : List (List Tm)) (H : AHeap) (hl : lim ≤ H.next) (hv : SlSS H v ss) (hn : tot ss ≤ 100000) (hn2 : ss.length ≤ 100000) :
    ACalls Try.prog lim n_slices_Concat_S_impl_Term_impl_Term [v] H fun u H' => SlT H' u ss.flatten ∧ Ext H H' := by
  refine is_slices_Concat_S_impl_Term_impl_Term.go rfl ?_
  unfold c_slices_Concat_S_impl_Term_impl_Term
  refine s_reg ?_
  simp only [o_cont, o_callT, callV_fn, o_pure, o_eff, o_callF, o_callN, o_guard, gk_tt, gk_ff, gk_tf, gk_ft, gk_u, t_op, t_alt, t_nil, o_nil, POp.ev, Opd.ev, EOp.ev, env0, gu, gv, setD, resV, List.set, List.map, List.map_nil, List.map_cons, Option.map_none, Option.map_some, Option.some.injEq, exists_eq_left', pickV, binV, convV, load1V, max2V, min2V, nilchkV, unV, boolEq, isNilV, fadV, extV, slenV, ne_eq, not_true_eq_false, if_false, if_true, ite_true, ite_false, Bool.false_eq_true, Bool.true_eq_false, beq_true, beq_false, beq_self_eq_true, Bool.not_true, Bool.not_false, reduceCtorEq, List.getElem?_toArray, List.getElem?_cons_zero, List.getElem?_cons_succ]
  refine s_reg ?_
  simp only [o_cont, o_callT, callV_fn, o_pure, o_eff, o_callF, o_callN, o_guard, gk_tt, gk_ff, gk_tf, gk_ft, gk_u, t_op, t_alt, t_nil, o_nil, POp.ev, Opd.ev, EOp.ev, env0, gu, gv, setD, resV, List.set, List.map, List.map_nil, List.map_cons, Option.map_none, Option.map_some, Option.some.injEq, exists_eq_left', pickV, binV, convV, load1V, max2V, min2V, nilchkV, unV, boolEq, isNilV, fadV, extV, slenV, ne_eq, not_true_eq_false, if_false, if_true, ite_true, ite_false, Bool.false_eq_true, Bool.true_eq_false, beq_true, beq_false, beq_self_eq_true, Bool.not_true, Bool.not_false, reduceCtorEq, List.getElem?_toArray, List.getElem?_cons_zero, List.getElem?_cons_succ]
  refine s_assoc (s_reg ?_)
  simp only [o_cont, o_callT, callV_fn, o_pure, o_eff, o_callF, o_callN, o_guard, gk_tt, gk_ff, gk_tf, gk_ft, gk_u, t_op, t_alt, t_nil, o_nil, POp.ev, Opd.ev, EOp.ev, env0, gu, gv, setD, resV, List.set, List.map, List.map_nil, List.map_cons, Option.map_none, Option.map_some, Option.some.injEq, exists_eq_left', pickV, binV, convV, load1V, max2V, min2V, nilchkV, unV, boolEq, isNilV, fadV, extV, slenV, ne_eq, not_true_eq_false, if_false, if_true, ite_true, ite_false, Bool.false_eq_true, Bool.true_eq_false, beq_true, beq_false, beq_self_eq_true, Bool.not_true, Bool.not_false, reduceCtorEq, List.getElem?_toArray, List.getElem?_cons_zero, List.getElem?_cons_succ, hv.lenV]
  refine s_block ?_
  refine s_loop1 (fun n e' H' => H' = H ∧ ∃ (i : Nat) (x3 : Value), i + n = ss.length ∧ e' = [v, .slice none 0 0, .int .i64 (tot (ss.take i)), x3, undef, undef, v, .int .i64 ss.length, .int .i64 i, undef, undef, undef]) ss.length ⟨rfl, 0, _, by omega, rfl⟩ ?_
  rintro n e' H ⟨rfl, i, x3, hin, rfl⟩
  refine s_test ?_
  simp only [o_cont, o_callT, callV_fn, o_pure, o_eff, o_callF, o_callN, o_guard, gk_tt, gk_ff, gk_tf, gk_ft, gk_u, t_op, t_alt, t_nil, o_nil, POp.ev, Opd.ev, EOp.ev, env0, gu, gv, setD, resV, List.set, List.map, List.map_nil, List.map_cons, Option.map_none, Option.map_some, Option.some.injEq, exists_eq_left', pickV, binV, convV, load1V, max2V, min2V, nilchkV, unV, boolEq, isNilV, fadV, extV, slenV, ne_eq, not_true_eq_false, if_false, if_true, ite_true, ite_false, Bool.false_eq_true, Bool.true_eq_false, beq_true, beq_false, beq_self_eq_true, Bool.not_true, Bool.not_false, reduceCtorEq, List.getElem?_toArray, List.getElem?_cons_zero, List.getElem?_cons_succ]
  refine Test.split (fun hlt => ?_) (fun hlt => ?_)
  · have hlt' : i < ss.length := by simpa using hlt
    refine s_skip1 ?_
    simp +decide only [p_seq_normal, p_seq_ret, p_seq_exit, p_block_normal, p_block_ret, p_block_exit, p_fin_ret, p_fin_normal, reduceIte, Nat.reduceEqDiff, resV, resOne, resL, gv, Option.some.injEq, exists_eq_left', Option.bind_some, Option.map_some, List.getD_cons_zero, List.getD_cons_succ]
    refine s_block ?_
    obtain ⟨bb, o, s, h1, h2, h3⟩ := hv.at hlt'
    refine s_reg ?_
    simp only [o_cont, o_callT, callV_fn, o_pure, o_eff, o_callF, o_callN, o_guard, gk_tt, gk_ff, gk_tf, gk_ft, gk_u, t_op, t_alt, t_nil, o_nil, POp.ev, Opd.ev, EOp.ev, env0, gu, gv, setD, resV, List.set, List.map, List.map_nil, List.map_cons, Option.map_none, Option.map_some, Option.some.injEq, exists_eq_left', pickV, binV, convV, load1V, max2V, min2V, nilchkV, unV, boolEq, isNilV, fadV, extV, slenV, ne_eq, not_true_eq_false, if_false, if_true, ite_true, ite_false, Bool.false_eq_true, Bool.true_eq_false, beq_true, beq_false, beq_self_eq_true, Bool.not_true, Bool.not_false, reduceCtorEq, List.getElem?_toArray, List.getElem?_cons_zero, List.getElem?_cons_succ, h1, h2]
    have hsum := tot_take_succ hlt'
    have hle := tot_take_le ss (i + 1)
    refine s_reg ?_
    simp only [o_cont, o_callT, callV_fn, o_pure, o_eff, o_callF, o_callN, o_guard, gk_tt, gk_ff, gk_tf, gk_ft, gk_u, t_op, t_alt, t_nil, o_nil, POp.ev, Opd.ev, EOp.ev, env0, gu, gv, setD, resV, List.set, List.map, List.map_nil, List.map_cons, Option.map_none, Option.map_some, Option.some.injEq, exists_eq_left', pickV, binV, convV, load1V, max2V, min2V, nilchkV, unV, boolEq, isNilV, fadV, extV, slenV, ne_eq, not_true_eq_false, if_false, if_true, ite_true, ite_false, Bool.false_eq_true, Bool.true_eq_false, beq_true, beq_false, beq_self_eq_true, Bool.not_true, Bool.not_false, reduceCtorEq, List.getElem?_toArray, List.getElem?_cons_zero, List.getElem?_cons_succ, h3.lenV, addN (i := tot (ss.take i)) (j := ss[i].length) (by omega), ← hsum]
    have hng : decide ((tot (ss.take (i + 1)) : Int) < 0) = false := by simp
    refine s_test1 ?_
    simp only [o_cont, o_callT, callV_fn, o_pure, o_eff, o_callF, o_callN, o_guard, gk_tt, gk_ff, gk_tf, gk_ft, gk_u, t_op, t_alt, t_nil, o_nil, POp.ev, Opd.ev, EOp.ev, env0, gu, gv, setD, resV, List.set, List.map, List.map_nil, List.map_cons, Option.map_none, Option.map_some, Option.some.injEq, exists_eq_left', pickV, binV, convV, load1V, max2V, min2V, nilchkV, unV, boolEq, isNilV, fadV, extV, slenV, ne_eq, not_true_eq_false, if_false, if_true, ite_true, ite_false, Bool.false_eq_true, Bool.true_eq_false, beq_true, beq_false, beq_self_eq_true, Bool.not_true, Bool.not_false, reduceCtorEq, List.getElem?_toArray, List.getElem?_cons_zero, List.getElem?_cons_succ, hng]
    refine Test.false_ (s_skip1 ?_)
    simp +decide only [p_seq_normal, p_seq_ret, p_seq_exit, p_block_normal, p_block_ret, p_block_exit, p_fin_ret, p_fin_normal, reduceIte, Nat.reduceEqDiff, resV, resOne, resL, gv, Option.some.injEq, exists_eq_left', Option.bind_some, Option.map_some, List.getD_cons_zero, List.getD_cons_succ]
    refine s_reg1 ?_
    simp only [o_cont, o_callT, callV_fn, o_pure, o_eff, o_callF, o_callN, o_guard, gk_tt, gk_ff, gk_tf, gk_ft, gk_u, t_op, t_alt, t_nil, o_nil, POp.ev, Opd.ev, EOp.ev, env0, gu, gv, setD, resV, List.set, List.map, List.map_nil, List.map_cons, Option.map_none, Option.map_some, Option.some.injEq, exists_eq_left', pickV, binV, convV, load1V, max2V, min2V, nilchkV, unV, boolEq, isNilV, fadV, extV, slenV, ne_eq, not_true_eq_false, if_false, if_true, ite_true, ite_false, Bool.false_eq_true, Bool.true_eq_false, beq_true, beq_false, beq_self_eq_true, Bool.not_true, Bool.not_false, reduceCtorEq, List.getElem?_toArray, List.getElem?_cons_zero, List.getElem?_cons_succ, add1 (i := i) (by omega)]
    simp +decide only [p_seq_normal, p_seq_ret, p_seq_exit, p_block_normal, p_block_ret, p_block_exit, p_fin_ret, p_fin_normal, reduceIte, Nat.reduceEqDiff, resV, resOne, resL, gv, Option.some.injEq, exists_eq_left', Option.bind_some, Option.map_some, List.getD_cons_zero, List.getD_cons_succ]
    exact Round.mk (n - 1) (by omega) ⟨rfl, i + 1, _, by omega, rfl⟩
  · have hge : ss.length ≤ i := by simp at hlt; omega
    rw [List.take_of_length_le hge]
    obtain ⟨i', rfl⟩ : ∃ i', i' = i := ⟨i, rfl⟩
    refine s_exit1 ?_
    simp +decide only [p_seq_normal, p_seq_ret, p_seq_exit, p_block_normal, p_block_ret, p_block_exit, p_fin_ret, p_fin_normal, reduceIte, Nat.reduceEqDiff, resV, resOne, resL, gv, Option.some.injEq, exists_eq_left', Option.bind_some, Option.map_some, List.getD_cons_zero, List.getD_cons_succ]
    refine s_reg ?_
    simp only [o_cont, o_callT, callV_fn, o_pure, o_eff, o_callF, o_callN, o_guard, gk_tt, gk_ff, gk_tf, gk_ft, gk_u, t_op, t_alt, t_nil, o_nil, POp.ev, Opd.ev, EOp.ev, env0, gu, gv, setD, resV, List.set, List.map, List.map_nil, List.map_cons, Option.map_none, Option.map_some, Option.some.injEq, exists_eq_left', pickV, binV, convV, load1V, max2V, min2V, nilchkV, unV, boolEq, isNilV, fadV, extV, slenV, ne_eq, not_true_eq_false, if_false, if_true, ite_true, ite_false, Bool.false_eq_true, Bool.true_eq_false, beq_true, beq_false, beq_self_eq_true, Bool.not_true, Bool.not_false, reduceCtorEq, List.getElem?_toArray, List.getElem?_cons_zero, List.getElem?_cons_succ]
    refine (growT_ok lim _ _ hl (by omega)).mono ?_
    rintro u H1 ⟨hu, hx1⟩
    simp only [o_cont, o_callT, callV_fn, o_pure, o_eff, o_callF, o_callN, o_guard, gk_tt, gk_ff, gk_tf, gk_ft, gk_u, t_op, t_alt, t_nil, o_nil, POp.ev, Opd.ev, EOp.ev, env0, gu, gv, setD, resV, List.set, List.map, List.map_nil, List.map_cons, Option.map_none, Option.map_some, Option.some.injEq, exists_eq_left', pickV, binV, convV, load1V, max2V, min2V, nilchkV, unV, boolEq, isNilV, fadV, extV, slenV, ne_eq, not_true_eq_false, if_false, if_true, ite_true, ite_false, Bool.false_eq_true, Bool.true_eq_false, beq_true, beq_false, beq_self_eq_true, Bool.not_true, Bool.not_false, reduceCtorEq, List.getElem?_toArray, List.getElem?_cons_zero, List.getElem?_cons_succ]
    refine s_assoc (s_reg ?_)
    simp only [o_cont, o_callT, callV_fn, o_pure, o_eff, o_callF, o_callN, o_guard, gk_tt, gk_ff, gk_tf, gk_ft, gk_u, t_op, t_alt, t_nil, o_nil, POp.ev, Opd.ev, EOp.ev, env0, gu, gv, setD, resV, List.set, List.map, List.map_nil, List.map_cons, Option.map_none, Option.map_some, Option.some.injEq, exists_eq_left', pickV, binV, convV, load1V, max2V, min2V, nilchkV, unV, boolEq, isNilV, fadV, extV, slenV, ne_eq, not_true_eq_false, if_false, if_true, ite_true, ite_false, Bool.false_eq_true, Bool.true_eq_false, beq_true, beq_false, beq_self_eq_true, Bool.not_true, Bool.not_false, reduceCtorEq, List.getElem?_toArray, List.getElem?_cons_zero, List.getElem?_cons_succ, hv.lenV]
    refine s_block ?_
    refine s_loop1 (fun n e' H' => ∃ (i b : Nat) (x5 u : Value), i + n = ss.length ∧ H.next ≤ b ∧ VecT H' b u (ss.take i).flatten ∧ Ext H H' ∧ e' = [v, .slice none 0 0, .int .i64 (tot ss), x3, u, x5, v, .int .i64 ss.length, .int .i64 i', v, .int .i64 ss.length, .int .i64 i]) ss.length ⟨0, _, _, _, by omega, Nat.le_refl _, hu, hx1, rfl⟩ ?_
    clear hu hx1
    rintro n e' H1 ⟨i, b, x5, u, hin, hb, hu, hx1, rfl⟩
    refine s_test ?_
    simp only [o_cont, o_callT, callV_fn, o_pure, o_eff, o_callF, o_callN, o_guard, gk_tt, gk_ff, gk_tf, gk_ft, gk_u, t_op, t_alt, t_nil, o_nil, POp.ev, Opd.ev, EOp.ev, env0, gu, gv, setD, resV, List.set, List.map, List.map_nil, List.map_cons, Option.map_none, Option.map_some, Option.some.injEq, exists_eq_left', pickV, binV, convV, load1V, max2V, min2V, nilchkV, unV, boolEq, isNilV, fadV, extV, slenV, ne_eq, not_true_eq_false, if_false, if_true, ite_true, ite_false, Bool.false_eq_true, Bool.true_eq_false, beq_true, beq_false, beq_self_eq_true, Bool.not_true, Bool.not_false, reduceCtorEq, List.getElem?_toArray, List.getElem?_cons_zero, List.getElem?_cons_succ]
    refine Test.split (fun hlt => ?_) (fun hlt => ?_)
    · have hlt' : i < ss.length := by simpa using hlt
      refine s_skip1 ?_
      simp +decide only [p_seq_normal, p_seq_ret, p_seq_exit, p_block_normal, p_block_ret, p_block_exit, p_fin_ret, p_fin_normal, reduceIte, Nat.reduceEqDiff, resV, resOne, resL, gv, Option.some.injEq, exists_eq_left', Option.bind_some, Option.map_some, List.getD_cons_zero, List.getD_cons_succ]
      refine s_block ?_
      obtain ⟨bb, o, s, h1, h2, h3⟩ := (hv.ext hx1).at hlt'
      refine s_reg ?_
      simp only [o_cont, o_callT, callV_fn, o_pure, o_eff, o_callF, o_callN, o_guard, gk_tt, gk_ff, gk_tf, gk_ft, gk_u, t_op, t_alt, t_nil, o_nil, POp.ev, Opd.ev, EOp.ev, env0, gu, gv, setD, resV, List.set, List.map, List.map_nil, List.map_cons, Option.map_none, Option.map_some, Option.some.injEq, exists_eq_left', pickV, binV, convV, load1V, max2V, min2V, nilchkV, unV, boolEq, isNilV, fadV, extV, slenV, ne_eq, not_true_eq_false, if_false, if_true, ite_true, ite_false, Bool.false_eq_true, Bool.true_eq_false, beq_true, beq_false, beq_self_eq_true, Bool.not_true, Bool.not_false, reduceCtorEq, List.getElem?_toArray, List.getElem?_cons_zero, List.getElem?_cons_succ, h1, h2]
      have hsum := tot_take_succ hlt'
      have hle := tot_take_le ss (i + 1)
      obtain ⟨u', H2, b', k1, k2, k3, k4⟩ := appendT2 (lim := lim) hu h3 (by omega) (by rw [flatten_length_tot]; omega)
      refine s_reg1 ?_
      simp only [o_cont, o_callT, callV_fn, o_pure, o_eff, o_callF, o_callN, o_guard, gk_tt, gk_ff, gk_tf, gk_ft, gk_u, t_op, t_alt, t_nil, o_nil, POp.ev, Opd.ev, EOp.ev, env0, gu, gv, setD, resV, List.set, List.map, List.map_nil, List.map_cons, Option.map_none, Option.map_some, Option.some.injEq, exists_eq_left', pickV, binV, convV, load1V, max2V, min2V, nilchkV, unV, boolEq, isNilV, fadV, extV, slenV, ne_eq, not_true_eq_false, if_false, if_true, ite_true, ite_false, Bool.false_eq_true, Bool.true_eq_false, beq_true, beq_false, beq_self_eq_true, Bool.not_true, Bool.not_false, reduceCtorEq, List.getElem?_toArray, List.getElem?_cons_zero, List.getElem?_cons_succ, k1]
      simp +decide only [p_seq_normal, p_seq_ret, p_seq_exit, p_block_normal, p_block_ret, p_block_exit, p_fin_ret, p_fin_normal, reduceIte, Nat.reduceEqDiff, resV, resOne, resL, gv, Option.some.injEq, exists_eq_left', Option.bind_some, Option.map_some, List.getD_cons_zero, List.getD_cons_succ]
      refine s_reg1 ?_
      simp only [o_cont, o_callT, callV_fn, o_pure, o_eff, o_callF, o_callN, o_guard, gk_tt, gk_ff, gk_tf, gk_ft, gk_u, t_op, t_alt, t_nil, o_nil, POp.ev, Opd.ev, EOp.ev, env0, gu, gv, setD, resV, List.set, List.map, List.map_nil, List.map_cons, Option.map_none, Option.map_some, Option.some.injEq, exists_eq_left', pickV, binV, convV, load1V, max2V, min2V, nilchkV, unV, boolEq, isNilV, fadV, extV, slenV, ne_eq, not_true_eq_false, if_false, if_true, ite_true, ite_false, Bool.false_eq_true, Bool.true_eq_false, beq_true, beq_false, beq_self_eq_true, Bool.not_true, Bool.not_false, reduceCtorEq, List.getElem?_toArray, List.getElem?_cons_zero, List.getElem?_cons_succ, add1 (i := i) (by omega)]
      simp +decide only [p_seq_normal, p_seq_ret, p_seq_exit, p_block_normal, p_block_ret, p_block_exit, p_fin_ret, p_fin_normal, reduceIte, Nat.reduceEqDiff, resV, resOne, resL, gv, Option.some.injEq, exists_eq_left', Option.bind_some, Option.map_some, List.getD_cons_zero, List.getD_cons_succ]
      have hnx1 := hx1.next
      refine Round.mk (n - 1) (by omega) ⟨i + 1, b', _, u', by omega, by rcases k3 with rfl | k3 <;> omega, ?_, k4.ext hx1 hb, rfl⟩
      rw [List.take_succ_eq_append_getElem hlt', List.flatten_append]
      simpa using k2
    · have hge : ss.length ≤ i := by simp at hlt; omega
      rw [List.take_of_length_le hge] at hu
      refine s_exit1 ?_
      simp +decide only [p_seq_normal, p_seq_ret, p_seq_exit, p_block_normal, p_block_ret, p_block_exit, p_fin_ret, p_fin_normal, reduceIte, Nat.reduceEqDiff, resV, resOne, resL, gv, Option.some.injEq, exists_eq_left', Option.bind_some, Option.map_some, List.getD_cons_zero, List.getD_cons_succ]
      refine s_reg ?_
      simp only [o_cont, o_callT, callV_fn, o_pure, o_eff, o_callF, o_callN, o_guard, gk_tt, gk_ff, gk_tf, gk_ft, gk_u, t_op, t_alt, t_nil, o_nil, POp.ev, Opd.ev, EOp.ev, env0, gu, gv, setD, resV, List.set, List.map, List.map_nil, List.map_cons, Option.map_none, Option.map_some, Option.some.injEq, exists_eq_left', pickV, binV, convV, load1V, max2V, min2V, nilchkV, unV, boolEq, isNilV, fadV, extV, slenV, ne_eq, not_true_eq_false, if_false, if_true, ite_true, ite_false, Bool.false_eq_true, Bool.true_eq_false, beq_true, beq_false, beq_self_eq_true, Bool.not_true, Bool.not_false, reduceCtorEq, List.getElem?_toArray, List.getElem?_cons_zero, List.getElem?_cons_succ]
      refine s_ret1 ?_
      simp +decide only [p_seq_normal, p_seq_ret, p_seq_exit, p_block_normal, p_block_ret, p_block_exit, p_fin_ret, p_fin_normal, reduceIte, Nat.reduceEqDiff, resV, resOne, resL, gv, Option.some.injEq, exists_eq_left', Option.bind_some, Option.map_some, List.getD_cons_zero, List.getD_cons_succ]
      exact ⟨Vec.sl hu, hx1⟩
end Go.Proofs.Ytaimceodhhgnnaa
