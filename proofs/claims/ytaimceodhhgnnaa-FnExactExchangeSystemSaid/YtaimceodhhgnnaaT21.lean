/- Systems of polynomials, part 21 of the walk: results that are sorted, and the implementation's exchange of unknowns; no condition beyond stated lengths. -/
import Derived.Test.YtaimceodhhgnnaaT20
namespace Go.Proofs.Ytaimceodhhgnnaa
open Go.Ab
set_option linter.unusedSimpArgs false
set_option linter.unusedVariables false

def sortR (f : Tm → Tm) (ss : List (List Tm)) : Option (List (List Tm)) := if goodSS (ss.map fun p => isortF [] (p.map f)) then some (ss.map fun p => isortF [] (p.map f)) else none
theorem systemResult2_ok (lim : Nat) (s cp : Value) (g : FuncId) (f : Tm → Tm) (ss : List (List Tm)) (H : AHeap) (hl : lim ≤ H.next) (hs : SlSS H s ss) (hn : ss.length ≤ 1000000) (hn2 : ∀ p ∈ ss, p.length ≤ 20) (hok : ∀ p ∈ ss, ∀ t ∈ p, okTm t = true)
    (hf : ∀ p ∈ ss, Sorted (isortF [] (p.map f)) ∧ ∀ t ∈ isortF [] (p.map f), t.c ≠ 0)
    (hcl : ∀ (H' : AHeap) (t : Tm), Ext H H' → okTm t = true → (∃ p ∈ ss, t ∈ p) → ACalls Try.prog lim g [tv t, cp] H' fun v H'' => SlT H'' v [f t] ∧ Ext H' H'') :
    ACalls Try.prog lim n_impl_systemResult [s, .func (.func g) #[] #[cp]] H fun v H' => ResSS H' H.next v (sortR f ss) ∧ Ext H H' := by
  refine is_impl_systemResult.go rfl ?_
  unfold c_impl_systemResult
  refine s_reg ?_
  simp only [o_cont, o_callT, callV_fn, o_pure, o_eff, o_callF, o_callN, o_guard, gk_tt, gk_ff, gk_tf, gk_ft, gk_u, t_op, t_alt, t_nil, o_nil, POp.ev, Opd.ev, EOp.ev, env0, gu, gv, setD, resV, List.set, List.map, List.map_nil, List.map_cons, Option.map_none, Option.map_some, Option.some.injEq, exists_eq_left', pickV, binV, convV, load1V, max2V, min2V, nilchkV, unV, boolEq, isNilV, fadV, extV, slenV, ne_eq, not_true_eq_false, if_false, if_true, ite_true, ite_false, Bool.false_eq_true, Bool.true_eq_false, beq_true, beq_false, beq_self_eq_true, Bool.not_true, Bool.not_false, reduceCtorEq, List.getElem?_toArray, List.getElem?_cons_zero, List.getElem?_cons_succ]
  refine s_reg ?_
  simp only [o_cont, o_callT, callV_fn, o_pure, o_eff, o_callF, o_callN, o_guard, gk_tt, gk_ff, gk_tf, gk_ft, gk_u, t_op, t_alt, t_nil, o_nil, POp.ev, Opd.ev, EOp.ev, env0, gu, gv, setD, resV, List.set, List.map, List.map_nil, List.map_cons, Option.map_none, Option.map_some, Option.some.injEq, exists_eq_left', pickV, binV, convV, load1V, max2V, min2V, nilchkV, unV, boolEq, isNilV, fadV, extV, slenV, ne_eq, not_true_eq_false, if_false, if_true, ite_true, ite_false, Bool.false_eq_true, Bool.true_eq_false, beq_true, beq_false, beq_self_eq_true, Bool.not_true, Bool.not_false, reduceCtorEq, List.getElem?_toArray, List.getElem?_cons_zero, List.getElem?_cons_succ]
  refine s_assoc (s_reg ?_)
  simp only [o_cont, o_callT, callV_fn, o_pure, o_eff, o_callF, o_callN, o_guard, gk_tt, gk_ff, gk_tf, gk_ft, gk_u, t_op, t_alt, t_nil, o_nil, POp.ev, Opd.ev, EOp.ev, env0, gu, gv, setD, resV, List.set, List.map, List.map_nil, List.map_cons, Option.map_none, Option.map_some, Option.some.injEq, exists_eq_left', pickV, binV, convV, load1V, max2V, min2V, nilchkV, unV, boolEq, isNilV, fadV, extV, slenV, ne_eq, not_true_eq_false, if_false, if_true, ite_true, ite_false, Bool.false_eq_true, Bool.true_eq_false, beq_true, beq_false, beq_self_eq_true, Bool.not_true, Bool.not_false, reduceCtorEq, List.getElem?_toArray, List.getElem?_cons_zero, List.getElem?_cons_succ, hs.lenV]
  refine s_block ?_
  refine s_loop1 (fun j e' H' => ∃ (i b : Nat) (vs : List Value) (bs : List Nat) (v x5 x6 x7 x11 x12 x13 : Value), i + j = ss.length ∧ GrowX H' H.next b vs bs v ((ss.take i).map fun p => isortF [] (p.map f)) ∧ Ext H H' ∧
    e' = [s, .func (.func g) #[] #[cp], .slice none 0 0, .bool false, v, x5, x6, x7, s, .int .i64 ss.length, .int .i64 i, x11, x12, x13]) ss.length ⟨0, H.next, [], [], _, _, _, _, _, _, _, by omega, GrowX.nil' _, Ext.refl _, rfl⟩ ?_
  rintro j e' H' ⟨i, b, vs, bs, v, x5, x6, x7, x11, x12, x13, hij, hG, hx, rfl⟩
  have hnx := hx.next
  refine s_test ?_
  simp only [o_cont, o_callT, callV_fn, o_pure, o_eff, o_callF, o_callN, o_guard, gk_tt, gk_ff, gk_tf, gk_ft, gk_u, t_op, t_alt, t_nil, o_nil, POp.ev, Opd.ev, EOp.ev, env0, gu, gv, setD, resV, List.set, List.map, List.map_nil, List.map_cons, Option.map_none, Option.map_some, Option.some.injEq, exists_eq_left', pickV, binV, convV, load1V, max2V, min2V, nilchkV, unV, boolEq, isNilV, fadV, extV, slenV, ne_eq, not_true_eq_false, if_false, if_true, ite_true, ite_false, Bool.false_eq_true, Bool.true_eq_false, beq_true, beq_false, beq_self_eq_true, Bool.not_true, Bool.not_false, reduceCtorEq, List.getElem?_toArray, List.getElem?_cons_zero, List.getElem?_cons_succ]
  refine Test.split (fun hlt => ?_) (fun hlt => ?_)
  · have hlt' : i < ss.length := by simpa using hlt
    obtain ⟨b1, o1, s1, h1, h2, h3⟩ := (hs.ext hx).at hlt'
    have hpl := hn2 _ (List.getElem_mem hlt')
    have hpok := hok _ (List.getElem_mem hlt')
    obtain ⟨hso, hnz⟩ := hf _ (List.getElem_mem hlt')
    refine s_skip1 ?_
    simp +decide only [p_seq_normal, p_seq_ret, p_seq_exit, p_block_normal, p_block_ret, p_block_exit, p_fin_ret, p_fin_normal, reduceIte, Nat.reduceEqDiff, resV, resOne, resL, gv, Option.some.injEq, exists_eq_left', Option.bind_some, Option.map_some, List.getD_cons_zero, List.getD_cons_succ]
    refine s_block ?_
    refine s_reg ?_
    simp only [o_cont, o_callT, callV_fn, o_pure, o_eff, o_callF, o_callN, o_guard, gk_tt, gk_ff, gk_tf, gk_ft, gk_u, t_op, t_alt, t_nil, o_nil, POp.ev, Opd.ev, EOp.ev, env0, gu, gv, setD, resV, List.set, List.map, List.map_nil, List.map_cons, Option.map_none, Option.map_some, Option.some.injEq, exists_eq_left', pickV, binV, convV, load1V, max2V, min2V, nilchkV, unV, boolEq, isNilV, fadV, extV, slenV, ne_eq, not_true_eq_false, if_false, if_true, ite_true, ite_false, Bool.false_eq_true, Bool.true_eq_false, beq_true, beq_false, beq_self_eq_true, Bool.not_true, Bool.not_false, reduceCtorEq, List.getElem?_toArray, List.getElem?_cons_zero, List.getElem?_cons_succ, h1, h2]
    refine s_reg ?_
    simp only [o_cont, o_callT, callV_fn, o_pure, o_eff, o_callF, o_callN, o_guard, gk_tt, gk_ff, gk_tf, gk_ft, gk_u, t_op, t_alt, t_nil, o_nil, POp.ev, Opd.ev, EOp.ev, env0, gu, gv, setD, resV, List.set, List.map, List.map_nil, List.map_cons, Option.map_none, Option.map_some, Option.some.injEq, exists_eq_left', pickV, binV, convV, load1V, max2V, min2V, nilchkV, unV, boolEq, isNilV, fadV, extV, slenV, ne_eq, not_true_eq_false, if_false, if_true, ite_true, ite_false, Bool.false_eq_true, Bool.true_eq_false, beq_true, beq_false, beq_self_eq_true, Bool.not_true, Bool.not_false, reduceCtorEq, List.getElem?_toArray, List.getElem?_cons_zero, List.getElem?_cons_succ]
    refine s_cut1 (fun e'' H'' => ∃ (c : Nat) (w x7 x11 x12 x13 : Value), VecT H'' c w (ss[i].map f) ∧ H'.next ≤ c ∧ c ≤ H''.next ∧ Ext H' H'' ∧ e'' = [s, .func (.func g) #[] #[cp], .slice none 0 0, .bool false, v, s1, w, x7, s, .int .i64 ss.length, .int .i64 i, x11, x12, x13]) ?_ ?_
    · refine s_reg ?_
      simp only [o_cont, o_callT, callV_fn, o_pure, o_eff, o_callF, o_callN, o_guard, gk_tt, gk_ff, gk_tf, gk_ft, gk_u, t_op, t_alt, t_nil, o_nil, POp.ev, Opd.ev, EOp.ev, env0, gu, gv, setD, resV, List.set, List.map, List.map_nil, List.map_cons, Option.map_none, Option.map_some, Option.some.injEq, exists_eq_left', pickV, binV, convV, load1V, max2V, min2V, nilchkV, unV, boolEq, isNilV, fadV, extV, slenV, ne_eq, not_true_eq_false, if_false, if_true, ite_true, ite_false, Bool.false_eq_true, Bool.true_eq_false, beq_true, beq_false, beq_self_eq_true, Bool.not_true, Bool.not_false, reduceCtorEq, List.getElem?_toArray, List.getElem?_cons_zero, List.getElem?_cons_succ, h3.lenV]
      refine s_block1 ?_
      refine s_loop1 (fun j2 e' H2 => ∃ (k c : Nat) (w x7 : Value), k + j2 = ss[i].length ∧ VecT H2 c w ((ss[i].take k).map f) ∧ H'.next ≤ c ∧ c ≤ H2.next ∧ Ext H' H2 ∧ e' = [s, .func (.func g) #[] #[cp], .slice none 0 0, .bool false, v, s1, w, x7, s, .int .i64 ss.length, .int .i64 i, s1, .int .i64 ss[i].length, .int .i64 k]) ss[i].length ⟨0, H'.next, _, _, by omega, vecT_nil _ _, Nat.le_refl _, Nat.le_refl _, Ext.refl _, rfl⟩ ?_
      rintro j2 e' H2 ⟨k, c, w, x7, hkj, hv, hc1, hc2, hx2, rfl⟩
      have hnx2 := hx2.next
      refine s_test ?_
      simp only [o_cont, o_callT, callV_fn, o_pure, o_eff, o_callF, o_callN, o_guard, gk_tt, gk_ff, gk_tf, gk_ft, gk_u, t_op, t_alt, t_nil, o_nil, POp.ev, Opd.ev, EOp.ev, env0, gu, gv, setD, resV, List.set, List.map, List.map_nil, List.map_cons, Option.map_none, Option.map_some, Option.some.injEq, exists_eq_left', pickV, binV, convV, load1V, max2V, min2V, nilchkV, unV, boolEq, isNilV, fadV, extV, slenV, ne_eq, not_true_eq_false, if_false, if_true, ite_true, ite_false, Bool.false_eq_true, Bool.true_eq_false, beq_true, beq_false, beq_self_eq_true, Bool.not_true, Bool.not_false, reduceCtorEq, List.getElem?_toArray, List.getElem?_cons_zero, List.getElem?_cons_succ]
      refine Test.split (fun hlt2 => ?_) (fun hlt2 => ?_)
      · have hk : k < ss[i].length := by simpa using hlt2
        obtain ⟨b2, o2, k1, a2⟩ := (h3.ext hx2).at hk
        have hto := hpok _ (List.getElem_mem hk)
        generalize hte : ss[i][k] = t at a2 hto
        refine s_skip1 ?_
        simp +decide only [p_seq_normal, p_seq_ret, p_seq_exit, p_block_normal, p_block_ret, p_block_exit, p_fin_ret, p_fin_normal, reduceIte, Nat.reduceEqDiff, resV, resOne, resL, gv, Option.some.injEq, exists_eq_left', Option.bind_some, Option.map_some, List.getD_cons_zero, List.getD_cons_succ]
        refine s_block ?_
        refine s_reg ?_
        simp only [o_cont, o_callT, callV_fn, o_pure, o_eff, o_callF, o_callN, o_guard, gk_tt, gk_ff, gk_tf, gk_ft, gk_u, t_op, t_alt, t_nil, o_nil, POp.ev, Opd.ev, EOp.ev, env0, gu, gv, setD, resV, List.set, List.map, List.map_nil, List.map_cons, Option.map_none, Option.map_some, Option.some.injEq, exists_eq_left', pickV, binV, convV, load1V, max2V, min2V, nilchkV, unV, boolEq, isNilV, fadV, extV, slenV, ne_eq, not_true_eq_false, if_false, if_true, ite_true, ite_false, Bool.false_eq_true, Bool.true_eq_false, beq_true, beq_false, beq_self_eq_true, Bool.not_true, Bool.not_false, reduceCtorEq, List.getElem?_toArray, List.getElem?_cons_zero, List.getElem?_cons_succ, k1, a2.all, store4_new (lim := lim) (H := H2) (by omega)]
        have hB := BoxT.mk' H2 t
        generalize H2.alloc (tc t) = H3 at hB ⊢
        generalize hqe : H2.next = q at hB ⊢
        refine s_reg1 ?_
        simp only [o_cont, o_callT, callV_fn, o_pure, o_eff, o_callF, o_callN, o_guard, gk_tt, gk_ff, gk_tf, gk_ft, gk_u, t_op, t_alt, t_nil, o_nil, POp.ev, Opd.ev, EOp.ev, env0, gu, gv, setD, resV, List.set, List.map, List.map_nil, List.map_cons, Option.map_none, Option.map_some, Option.some.injEq, exists_eq_left', pickV, binV, convV, load1V, max2V, min2V, nilchkV, unV, boolEq, isNilV, fadV, extV, slenV, ne_eq, not_true_eq_false, if_false, if_true, ite_true, ite_false, Bool.false_eq_true, Bool.true_eq_false, beq_true, beq_false, beq_self_eq_true, Bool.not_true, Bool.not_false, reduceCtorEq, List.getElem?_toArray, List.getElem?_cons_zero, List.getElem?_cons_succ, hB.all, callV_clo, List.cons_append, List.nil_append]
        refine (hcl H3 t ((hx.trans hx2).trans hB.ext) hto ⟨_, List.getElem_mem hlt', by rw [← hte]; exact List.getElem_mem hk⟩).mono ?_
        rintro u H4 ⟨hu, hx4⟩
        have hxx := hB.ext.trans hx4
        have hn4 := hxx.next
        obtain ⟨w', H5, c', g1, g2, g3, g4, g5⟩ := appendT (lim := lim) (VecT.ext hv hxx) hu (by omega) (by simp; omega)
        have hc5 := g5.next
        simp only [o_cont, o_callT, callV_fn, o_pure, o_eff, o_callF, o_callN, o_guard, gk_tt, gk_ff, gk_tf, gk_ft, gk_u, t_op, t_alt, t_nil, o_nil, POp.ev, Opd.ev, EOp.ev, env0, gu, gv, setD, resV, List.set, List.map, List.map_nil, List.map_cons, Option.map_none, Option.map_some, Option.some.injEq, exists_eq_left', pickV, binV, convV, load1V, max2V, min2V, nilchkV, unV, boolEq, isNilV, fadV, extV, slenV, ne_eq, not_true_eq_false, if_false, if_true, ite_true, ite_false, Bool.false_eq_true, Bool.true_eq_false, beq_true, beq_false, beq_self_eq_true, Bool.not_true, Bool.not_false, reduceCtorEq, List.getElem?_toArray, List.getElem?_cons_zero, List.getElem?_cons_succ, g1]
        simp +decide only [p_seq_normal, p_seq_ret, p_seq_exit, p_block_normal, p_block_ret, p_block_exit, p_fin_ret, p_fin_normal, reduceIte, Nat.reduceEqDiff, resV, resOne, resL, gv, Option.some.injEq, exists_eq_left', Option.bind_some, Option.map_some, List.getD_cons_zero, List.getD_cons_succ]
        refine s_reg1 ?_
        simp only [o_cont, o_callT, callV_fn, o_pure, o_eff, o_callF, o_callN, o_guard, gk_tt, gk_ff, gk_tf, gk_ft, gk_u, t_op, t_alt, t_nil, o_nil, POp.ev, Opd.ev, EOp.ev, env0, gu, gv, setD, resV, List.set, List.map, List.map_nil, List.map_cons, Option.map_none, Option.map_some, Option.some.injEq, exists_eq_left', pickV, binV, convV, load1V, max2V, min2V, nilchkV, unV, boolEq, isNilV, fadV, extV, slenV, ne_eq, not_true_eq_false, if_false, if_true, ite_true, ite_false, Bool.false_eq_true, Bool.true_eq_false, beq_true, beq_false, beq_self_eq_true, Bool.not_true, Bool.not_false, reduceCtorEq, List.getElem?_toArray, List.getElem?_cons_zero, List.getElem?_cons_succ, add1 (i := k) (by omega)]
        simp +decide only [p_seq_normal, p_seq_ret, p_seq_exit, p_block_normal, p_block_ret, p_block_exit, p_fin_ret, p_fin_normal, reduceIte, Nat.reduceEqDiff, resV, resOne, resL, gv, Option.some.injEq, exists_eq_left', Option.bind_some, Option.map_some, List.getD_cons_zero, List.getD_cons_succ]
        have hlt5 := g4 (by simp)
        refine Round.mk (j2 - 1) (by omega) ⟨k + 1, c', w', _, by omega, ?_, by rcases g3 with rfl | g3 <;> omega, by omega, Chg.ext (hx2.trans hxx) g5 hc1, rfl⟩
        rw [List.take_add_one, List.getElem?_eq_getElem hk, hte, List.map_append]
        exact g2
      · have hge : k = ss[i].length := by simp at hlt2; omega
        refine s_exit1 ?_
        simp +decide only [p_seq_normal, p_seq_ret, p_seq_exit, p_block_normal, p_block_ret, p_block_exit, p_fin_ret, p_fin_normal, reduceIte, Nat.reduceEqDiff, resV, resOne, resL, gv, Option.some.injEq, exists_eq_left', Option.bind_some, Option.map_some, List.getD_cons_zero, List.getD_cons_succ]
        rw [hge, List.take_length] at hv
        exact ⟨c, w, _, _, _, _, hv, hc1, hc2, hx2, rfl⟩
    rintro e'' H2 ⟨c, w, y7, y11, y12, y13, hv, hc1, hc2, hx2, rfl⟩
    have hnx2 := hx2.next
    refine s_reg1 ?_
    simp only [o_cont, o_callT, callV_fn, o_pure, o_eff, o_callF, o_callN, o_guard, gk_tt, gk_ff, gk_tf, gk_ft, gk_u, t_op, t_alt, t_nil, o_nil, POp.ev, Opd.ev, EOp.ev, env0, gu, gv, setD, resV, List.set, List.map, List.map_nil, List.map_cons, Option.map_none, Option.map_some, Option.some.injEq, exists_eq_left', pickV, binV, convV, load1V, max2V, min2V, nilchkV, unV, boolEq, isNilV, fadV, extV, slenV, ne_eq, not_true_eq_false, if_false, if_true, ite_true, ite_false, Bool.false_eq_true, Bool.true_eq_false, beq_true, beq_false, beq_self_eq_true, Bool.not_true, Bool.not_false, reduceCtorEq, List.getElem?_toArray, List.getElem?_cons_zero, List.getElem?_cons_succ]
    refine (collect2_ok lim _ _ _ (by omega) (Vec.sl hv) hso hnz (by simp; omega)).mono ?_
    rintro w3 H3 ⟨c3, hc31, hc32, hv3, hx3⟩
    have hcv : cellsV w3 = some [w3] := Vec.cellsV hv3
    have hnx3 := hx3.next
    obtain ⟨v', H4, b', g1, g2, g3⟩ := hG.push (lim := lim) (by omega) hx (Nat.le_refl _) (by omega) (hx2.trans hx3) (by omega) hc32 hv3 (by rw [List.length_map, List.length_take]; omega)
    simp only [o_cont, o_callT, callV_fn, o_pure, o_eff, o_callF, o_callN, o_guard, gk_tt, gk_ff, gk_tf, gk_ft, gk_u, t_op, t_alt, t_nil, o_nil, POp.ev, Opd.ev, EOp.ev, env0, gu, gv, setD, resV, List.set, List.map, List.map_nil, List.map_cons, Option.map_none, Option.map_some, Option.some.injEq, exists_eq_left', pickV, binV, convV, load1V, max2V, min2V, nilchkV, unV, boolEq, isNilV, fadV, extV, slenV, ne_eq, not_true_eq_false, if_false, if_true, ite_true, ite_false, Bool.false_eq_true, Bool.true_eq_false, beq_true, beq_false, beq_self_eq_true, Bool.not_true, Bool.not_false, reduceCtorEq, List.getElem?_toArray, List.getElem?_cons_zero, List.getElem?_cons_succ, bsliceV _ _ hcv, g1]
    simp +decide only [p_seq_normal, p_seq_ret, p_seq_exit, p_block_normal, p_block_ret, p_block_exit, p_fin_ret, p_fin_normal, reduceIte, Nat.reduceEqDiff, resV, resOne, resL, gv, Option.some.injEq, exists_eq_left', Option.bind_some, Option.map_some, List.getD_cons_zero, List.getD_cons_succ]
    refine s_reg1 ?_
    simp only [o_cont, o_callT, callV_fn, o_pure, o_eff, o_callF, o_callN, o_guard, gk_tt, gk_ff, gk_tf, gk_ft, gk_u, t_op, t_alt, t_nil, o_nil, POp.ev, Opd.ev, EOp.ev, env0, gu, gv, setD, resV, List.set, List.map, List.map_nil, List.map_cons, Option.map_none, Option.map_some, Option.some.injEq, exists_eq_left', pickV, binV, convV, load1V, max2V, min2V, nilchkV, unV, boolEq, isNilV, fadV, extV, slenV, ne_eq, not_true_eq_false, if_false, if_true, ite_true, ite_false, Bool.false_eq_true, Bool.true_eq_false, beq_true, beq_false, beq_self_eq_true, Bool.not_true, Bool.not_false, reduceCtorEq, List.getElem?_toArray, List.getElem?_cons_zero, List.getElem?_cons_succ, add1 (i := i) (by omega)]
    simp +decide only [p_seq_normal, p_seq_ret, p_seq_exit, p_block_normal, p_block_ret, p_block_exit, p_fin_ret, p_fin_normal, reduceIte, Nat.reduceEqDiff, resV, resOne, resL, gv, Option.some.injEq, exists_eq_left', Option.bind_some, Option.map_some, List.getD_cons_zero, List.getD_cons_succ]
    refine Round.mk (j - 1) (by omega) ⟨i + 1, b', vs ++ [w3], bs ++ [c3], v', _, _, _, _, _, _, by omega, ?_, g3, rfl⟩
    rw [List.take_add_one, List.getElem?_eq_getElem hlt', List.map_append]
    exact g2
  · have hge : i = ss.length := by simp at hlt; omega
    subst hge
    rw [List.take_length] at hG
    have hO := hG.own
    refine s_exit1 ?_
    simp +decide only [p_seq_normal, p_seq_ret, p_seq_exit, p_block_normal, p_block_ret, p_block_exit, p_fin_ret, p_fin_normal, reduceIte, Nat.reduceEqDiff, resV, resOne, resL, gv, Option.some.injEq, exists_eq_left', Option.bind_some, Option.map_some, List.getD_cons_zero, List.getD_cons_succ]
    refine s_test ?_
    simp only [o_cont, o_callT, callV_fn, o_pure, o_eff, o_callF, o_callN, o_guard, gk_tt, gk_ff, gk_tf, gk_ft, gk_u, t_op, t_alt, t_nil, o_nil, POp.ev, Opd.ev, EOp.ev, env0, gu, gv, setD, resV, List.set, List.map, List.map_nil, List.map_cons, Option.map_none, Option.map_some, Option.some.injEq, exists_eq_left', pickV, binV, convV, load1V, max2V, min2V, nilchkV, unV, boolEq, isNilV, fadV, extV, slenV, ne_eq, not_true_eq_false, if_false, if_true, ite_true, ite_false, Bool.false_eq_true, Bool.true_eq_false, beq_true, beq_false, beq_self_eq_true, Bool.not_true, Bool.not_false, reduceCtorEq, List.getElem?_toArray, List.getElem?_cons_zero, List.getElem?_cons_succ]
    refine (isSystem_ok lim _ _ _ (by omega) hO.slss (by simpa using hn) (by intro p hp; obtain ⟨q, hq, rfl⟩ := List.mem_map.1 hp; have := hn2 q hq; rw [isortF_length]; simp; omega)).mono ?_
    rintro _ H2 ⟨rfl, hx2⟩
    have hnx2 := hx2.next
    simp only [o_cont, o_callT, callV_fn, o_pure, o_eff, o_callF, o_callN, o_guard, gk_tt, gk_ff, gk_tf, gk_ft, gk_u, t_op, t_alt, t_nil, o_nil, POp.ev, Opd.ev, EOp.ev, env0, gu, gv, setD, resV, List.set, List.map, List.map_nil, List.map_cons, Option.map_none, Option.map_some, Option.some.injEq, exists_eq_left', pickV, binV, convV, load1V, max2V, min2V, nilchkV, unV, boolEq, isNilV, fadV, extV, slenV, ne_eq, not_true_eq_false, if_false, if_true, ite_true, ite_false, Bool.false_eq_true, Bool.true_eq_false, beq_true, beq_false, beq_self_eq_true, Bool.not_true, Bool.not_false, reduceCtorEq, List.getElem?_toArray, List.getElem?_cons_zero, List.getElem?_cons_succ]
    unfold sortR
    refine Test.split (fun hg => ?_) (fun hg => ?_)
    · simp only [Bool.not_eq_true'] at hg
      refine s_reg ?_
      simp only [o_cont, o_callT, callV_fn, o_pure, o_eff, o_callF, o_callN, o_guard, gk_tt, gk_ff, gk_tf, gk_ft, gk_u, t_op, t_alt, t_nil, o_nil, POp.ev, Opd.ev, EOp.ev, env0, gu, gv, setD, resV, List.set, List.map, List.map_nil, List.map_cons, Option.map_none, Option.map_some, Option.some.injEq, exists_eq_left', pickV, binV, convV, load1V, max2V, min2V, nilchkV, unV, boolEq, isNilV, fadV, extV, slenV, ne_eq, not_true_eq_false, if_false, if_true, ite_true, ite_false, Bool.false_eq_true, Bool.true_eq_false, beq_true, beq_false, beq_self_eq_true, Bool.not_true, Bool.not_false, reduceCtorEq, List.getElem?_toArray, List.getElem?_cons_zero, List.getElem?_cons_succ]
      refine s_ret1 ?_
      simp +decide only [p_seq_normal, p_seq_ret, p_seq_exit, p_block_normal, p_block_ret, p_block_exit, p_fin_ret, p_fin_normal, reduceIte, Nat.reduceEqDiff, resV, resOne, resL, gv, Option.some.injEq, exists_eq_left', Option.bind_some, Option.map_some, List.getD_cons_zero, List.getD_cons_succ]
      rw [hg]
      exact ⟨⟨.slice none 0 0, rfl, .inl ⟨rfl, rfl⟩⟩, hx.trans hx2⟩
    · simp only [Bool.not_eq_false'] at hg
      refine s_skip1 ?_
      simp +decide only [p_seq_normal, p_seq_ret, p_seq_exit, p_block_normal, p_block_ret, p_block_exit, p_fin_ret, p_fin_normal, reduceIte, Nat.reduceEqDiff, resV, resOne, resL, gv, Option.some.injEq, exists_eq_left', Option.bind_some, Option.map_some, List.getD_cons_zero, List.getD_cons_succ]
      refine s_reg ?_
      simp only [o_cont, o_callT, callV_fn, o_pure, o_eff, o_callF, o_callN, o_guard, gk_tt, gk_ff, gk_tf, gk_ft, gk_u, t_op, t_alt, t_nil, o_nil, POp.ev, Opd.ev, EOp.ev, env0, gu, gv, setD, resV, List.set, List.map, List.map_nil, List.map_cons, Option.map_none, Option.map_some, Option.some.injEq, exists_eq_left', pickV, binV, convV, load1V, max2V, min2V, nilchkV, unV, boolEq, isNilV, fadV, extV, slenV, ne_eq, not_true_eq_false, if_false, if_true, ite_true, ite_false, Bool.false_eq_true, Bool.true_eq_false, beq_true, beq_false, beq_self_eq_true, Bool.not_true, Bool.not_false, reduceCtorEq, List.getElem?_toArray, List.getElem?_cons_zero, List.getElem?_cons_succ]
      refine s_ret1 ?_
      simp +decide only [p_seq_normal, p_seq_ret, p_seq_exit, p_block_normal, p_block_ret, p_block_exit, p_fin_ret, p_fin_normal, reduceIte, Nat.reduceEqDiff, resV, resOne, resL, gv, Option.some.injEq, exists_eq_left', Option.bind_some, Option.map_some, List.getD_cons_zero, List.getD_cons_succ]
      rw [hg]
      exact ⟨⟨v, rfl, (hO.ext hx2).wide (Nat.le_refl _) hnx2⟩, hx.trans hx2⟩

theorem bld4 (a b c d : Int) : fillV [.int .i64 0, .int .i64 0, .int .i64 0, .int .i64 0] [(0, 1, .int .i64 a), (1, 1, .int .i64 b), (2, 1, .int .i64 c), (3, 1, .int .i64 d)] = some (tc ⟨a, b, c, d⟩) := by
  simp [fillV, cellsV, tc]
theorem aad_at {q n : Nat} {i : Nat} (h : i < n) : aadV n 1 (.pointer (some ⟨q, 0, none⟩)) (.int .i64 i) = some (.pointer (some ⟨q, i, none⟩)) := by
  simp [aadV, h]
theorem termOf_ok (lim : Nat) (c x y z : Int) (H : AHeap) (hl : lim ≤ H.next) : ACalls Try.prog lim n_impl_termOf [.int .i64 c, .agg #[vi x, vi y, vi z]] H fun v H' => v = tv ⟨c, x, y, z⟩ ∧ Ext H H' := by
  refine is_impl_termOf.go rfl ?_
  unfold c_impl_termOf
  have hcv : cellsV (.agg #[vi x, vi y, vi z]) = some [vi x, vi y, vi z] := rfl
  refine s_reg ?_
  simp only [o_cont, o_callT, callV_fn, o_pure, o_eff, o_callF, o_callN, o_guard, gk_tt, gk_ff, gk_tf, gk_ft, gk_u, t_op, t_alt, t_nil, o_nil, POp.ev, Opd.ev, EOp.ev, env0, gu, gv, setD, resV, List.set, List.map, List.map_nil, List.map_cons, Option.map_none, Option.map_some, Option.some.injEq, exists_eq_left', pickV, binV, convV, load1V, max2V, min2V, nilchkV, unV, boolEq, isNilV, fadV, extV, slenV, ne_eq, not_true_eq_false, if_false, if_true, ite_true, ite_false, Bool.false_eq_true, Bool.true_eq_false, beq_true, beq_false, beq_self_eq_true, Bool.not_true, Bool.not_false, reduceCtorEq, List.getElem?_toArray, List.getElem?_cons_zero, List.getElem?_cons_succ, boxH, hcv]
  have hx1 := Ext.alloc H [vi x, vi y, vi z]
  have hp : (H.alloc [vi x, vi y, vi z]).blk H.next = some [vi x, vi y, vi z] := alloc_new _ _
  have hnp : (H.alloc [vi x, vi y, vi z]).next = H.next + 1 := rfl
  generalize H.alloc [vi x, vi y, vi z] = H1 at hx1 hp hnp ⊢
  have hx2 := Ext.alloc H1 [.int .i64 0, .int .i64 0, .int .i64 0, .int .i64 0]
  have hr : (H1.alloc [.int .i64 0, .int .i64 0, .int .i64 0, .int .i64 0]).blk H1.next = some [.int .i64 0, .int .i64 0, .int .i64 0, .int .i64 0] := alloc_new _ _
  rw [← hx2.blk _ (by omega)] at hp
  replace hx1 := hx1.trans hx2
  generalize H1.alloc [.int .i64 0, .int .i64 0, .int .i64 0, .int .i64 0] = H2 at hx1 hp hr ⊢
  generalize hre : H1.next = r at hr hnp ⊢
  generalize hpe : H.next = p at hp hnp hl ⊢
  have a0 : aadV 3 1 (.pointer (some ⟨p, 0, none⟩)) (.int .i64 0) = some (.pointer (some ⟨p, 0, none⟩)) := aad_at (i := 0) (by omega)
  have a1 : aadV 3 1 (.pointer (some ⟨p, 0, none⟩)) (.int .i64 1) = some (.pointer (some ⟨p, 1, none⟩)) := aad_at (i := 1) (by omega)
  have a2 : aadV 3 1 (.pointer (some ⟨p, 0, none⟩)) (.int .i64 2) = some (.pointer (some ⟨p, 2, none⟩)) := aad_at (i := 2) (by omega)
  have hst : storeH lim H2 4 (.pointer (some ⟨r, 0, none⟩)) (tv ⟨c, x, y, z⟩) = some (undef, H2.put r (tc ⟨c, x, y, z⟩)) := store4 (by omega) hr
  have hbv : ∀ l : List Value, l = tc ⟨c, x, y, z⟩ → Value.agg l.toArray = tv ⟨c, x, y, z⟩ := by rintro l rfl; rfl
  refine s_reg ?_
  simp only [o_cont, o_callT, callV_fn, o_pure, o_eff, o_callF, o_callN, o_guard, gk_tt, gk_ff, gk_tf, gk_ft, gk_u, t_op, t_alt, t_nil, o_nil, POp.ev, Opd.ev, EOp.ev, env0, gu, gv, setD, resV, List.set, List.map, List.map_nil, List.map_cons, Option.map_none, Option.map_some, Option.some.injEq, exists_eq_left', pickV, binV, convV, load1V, max2V, min2V, nilchkV, unV, boolEq, isNilV, fadV, extV, slenV, ne_eq, not_true_eq_false, if_false, if_true, ite_true, ite_false, Bool.false_eq_true, Bool.true_eq_false, beq_true, beq_false, beq_self_eq_true, Bool.not_true, Bool.not_false, reduceCtorEq, List.getElem?_toArray, List.getElem?_cons_zero, List.getElem?_cons_succ, a0, a1, a2, cell_blk hp, bld4, hbv _ rfl, hst]
  refine s_ret1 ?_
  have hld : loadNV (H2.put r (tc ⟨c, x, y, z⟩)) 4 (.pointer (some ⟨r, 0, none⟩)) = some (tv ⟨c, x, y, z⟩) := load4 (put_same _ _ _)
  simp +decide only [p_seq_normal, p_seq_ret, p_seq_exit, p_block_normal, p_block_ret, p_block_exit, p_fin_ret, p_fin_normal, reduceIte, Nat.reduceEqDiff, resV, resOne, resL, gv, Option.some.injEq, exists_eq_left', Option.bind_some, Option.map_some, List.getD_cons_zero, List.getD_cons_succ, hld]
  exact ⟨trivial, Chg.ext hx1 (Chg.put _ _ _) (by omega)⟩

/-- the exponents laid where the list tells -/
def exA (t : Tm) : Nat → List Int → List Int → List Int
  | _, [], e => e
  | i, n :: l, e => exA t (i + 1) l (e.set n.toNat (ex t i))
theorem exA_length (t : Tm) : ∀ (l : List Int) (i : Nat) (e : List Int), (exA t i l e).length = e.length
  | [], i, e => rfl
  | n :: l, i, e => by rw [exA, exA_length t l, List.length_set]
theorem exA_pm {ord : List Int} (h : Ints.ordS ord = true) {t : Tm} (ht : okTm t = true) (hnd : expF ord.length t 0 = true) : ∃ x y z, exA t 0 ord [0, 0, 0] = [x, y, z] ∧ (⟨t.c, x, y, z⟩ : Tm) = pm ord t := by
  rw [okTm_iff] at ht
  rcases pm_cases h with ⟨rfl, e⟩ | ⟨rfl, e⟩ | ⟨rfl, e⟩ | ⟨rfl, e⟩ | ⟨rfl, e⟩ | ⟨rfl, e⟩ | ⟨rfl, e⟩ | ⟨rfl, e⟩ | ⟨rfl, e⟩
  · have hy : t.y = 0 ∧ t.z = 0 := by simp [expF] at hnd; omega
    refine ⟨_, _, _, rfl, ?_⟩
    rw [e]
    obtain ⟨c, x, y, z⟩ := t
    simp only at hy
    obtain ⟨rfl, rfl⟩ := hy
    rfl
  · have hy : t.z = 0 := by simp [expF] at hnd; omega
    refine ⟨_, _, _, rfl, ?_⟩
    rw [e]
    obtain ⟨c, x, y, z⟩ := t
    simp only at hy
    subst hy
    rfl
  · have hy : t.z = 0 := by simp [expF] at hnd; omega
    refine ⟨_, _, _, rfl, ?_⟩
    rw [e]
    obtain ⟨c, x, y, z⟩ := t
    simp only at hy
    subst hy
    rfl
  all_goals exact ⟨_, _, _, rfl, by rw [e]; rfl⟩

theorem exch1_ok (lim : Nat) (t : Tm) (q : Nat) (o : Value) (ord : List Int) (H : AHeap) (hl : lim ≤ H.next) (hq : q < H.next) (hc : H.blk q = some [o]) (ho : Ints.SlI H o ord) (hor : Ints.ordS ord = true) (ht : okTm t = true) (hnd : expF ord.length t 0 = true) :
    ACalls Try.prog lim n_impl_ExchangeSystem_1 [tv t, .pointer (some ⟨q, 0, none⟩)] H fun v H' => SlT H' v [pm ord t] ∧ Ext H H' := by
  refine is_impl_ExchangeSystem_1.go rfl ?_
  unfold c_impl_ExchangeSystem_1
  obtain ⟨r1, r2, r3⟩ := Ints.ordS_in hor
  refine s_reg ?_
  simp only [o_cont, o_callT, callV_fn, o_pure, o_eff, o_callF, o_callN, o_guard, gk_tt, gk_ff, gk_tf, gk_ft, gk_u, t_op, t_alt, t_nil, o_nil, POp.ev, Opd.ev, EOp.ev, env0, gu, gv, setD, resV, List.set, List.map, List.map_nil, List.map_cons, Option.map_none, Option.map_some, Option.some.injEq, exists_eq_left', pickV, binV, convV, load1V, max2V, min2V, nilchkV, unV, boolEq, isNilV, fadV, extV, slenV, ne_eq, not_true_eq_false, if_false, if_true, ite_true, ite_false, Bool.false_eq_true, Bool.true_eq_false, beq_true, beq_false, beq_self_eq_true, Bool.not_true, Bool.not_false, reduceCtorEq, List.getElem?_toArray, List.getElem?_cons_zero, List.getElem?_cons_succ, boxT]
  have hB := BoxT.mk' H t
  generalize H.alloc (tc t) = H1 at hB ⊢
  generalize hpe : H.next = p at hB hl hq ⊢
  have hge := hB.ge
  have hz3 : fillV [.int .i64 0, .int .i64 0, .int .i64 0] [] = some [vi 0, vi 0, vi 0] := rfl
  refine s_reg ?_
  simp only [o_cont, o_callT, callV_fn, o_pure, o_eff, o_callF, o_callN, o_guard, gk_tt, gk_ff, gk_tf, gk_ft, gk_u, t_op, t_alt, t_nil, o_nil, POp.ev, Opd.ev, EOp.ev, env0, gu, gv, setD, resV, List.set, List.map, List.map_nil, List.map_cons, Option.map_none, Option.map_some, Option.some.injEq, exists_eq_left', pickV, binV, convV, load1V, max2V, min2V, nilchkV, unV, boolEq, isNilV, fadV, extV, slenV, ne_eq, not_true_eq_false, if_false, if_true, ite_true, ite_false, Bool.false_eq_true, Bool.true_eq_false, beq_true, beq_false, beq_self_eq_true, Bool.not_true, Bool.not_false, reduceCtorEq, List.getElem?_toArray, List.getElem?_cons_zero, List.getElem?_cons_succ, hz3, hB.all]
  refine (exponents_ok lim t H1 (by have := hB.lt; omega)).mono ?_
  rintro _ H2 ⟨rfl, hx2⟩
  replace hB := hB.mono hx2
  have hlt2 := hB.lt
  have hxa := Ext.alloc H2 [.int .i64 0, .int .i64 0, .int .i64 0]
  have hna : (H2.alloc [.int .i64 0, .int .i64 0, .int .i64 0]).next = H2.next + 1 := rfl
  have h4 : (H2.alloc [.int .i64 0, .int .i64 0, .int .i64 0]).blk H2.next = some [.int .i64 0, .int .i64 0, .int .i64 0] := alloc_new _ _
  simp only [o_cont, o_callT, callV_fn, o_pure, o_eff, o_callF, o_callN, o_guard, gk_tt, gk_ff, gk_tf, gk_ft, gk_u, t_op, t_alt, t_nil, o_nil, POp.ev, Opd.ev, EOp.ev, env0, gu, gv, setD, resV, List.set, List.map, List.map_nil, List.map_cons, Option.map_none, Option.map_some, Option.some.injEq, exists_eq_left', pickV, binV, convV, load1V, max2V, min2V, nilchkV, unV, boolEq, isNilV, fadV, extV, slenV, ne_eq, not_true_eq_false, if_false, if_true, ite_true, ite_false, Bool.false_eq_true, Bool.true_eq_false, beq_true, beq_false, beq_self_eq_true, Bool.not_true, Bool.not_false, reduceCtorEq, List.getElem?_toArray, List.getElem?_cons_zero, List.getElem?_cons_succ]
  generalize H2.alloc [.int .i64 0, .int .i64 0, .int .i64 0] = H3 at hxa hna h4 ⊢
  have hxb := Ext.alloc H3 [.int .i64 0, .int .i64 0, .int .i64 0]
  have hnb : (H3.alloc [.int .i64 0, .int .i64 0, .int .i64 0]).next = H3.next + 1 := rfl
  have h5 : (H3.alloc [.int .i64 0, .int .i64 0, .int .i64 0]).blk H3.next = some [.int .i64 0, .int .i64 0, .int .i64 0] := alloc_new _ _
  rw [← hxb.blk _ (by omega)] at h4
  replace hB := hB.mono (hxa.trans hxb)
  generalize H3.alloc [.int .i64 0, .int .i64 0, .int .i64 0] = H4 at hxb hnb h4 h5 hB ⊢
  generalize he4 : H2.next = q4 at h4 hna hlt2 ⊢
  generalize he5 : H3.next = q5 at h5 hna hnb ⊢
  have hst1 : storeH lim H4 3 (.pointer (some ⟨q4, 0, none⟩)) (.agg #[vi 0, vi 0, vi 0]) = some (undef, H4.put q4 [vi 0, vi 0, vi 0]) := store3 (by omega) h4
  have h5' : (H4.put q4 [vi 0, vi 0, vi 0]).blk q5 = some [.int .i64 0, .int .i64 0, .int .i64 0] := by rw [put_ne _ _ (by omega)]; exact h5
  have hst2 : storeH lim (H4.put q4 [vi 0, vi 0, vi 0]) 3 (.pointer (some ⟨q5, 0, none⟩)) (expV t) = some (undef, (H4.put q4 [vi 0, vi 0, vi 0]).put q5 [vi t.x, vi t.y, vi t.z]) := store3 (by omega) h5'
  have hbv : Value.agg (List.toArray [vi 0, vi 0, vi 0]) = .agg #[vi 0, vi 0, vi 0] := rfl
  simp only [o_cont, o_callT, callV_fn, o_pure, o_eff, o_callF, o_callN, o_guard, gk_tt, gk_ff, gk_tf, gk_ft, gk_u, t_op, t_alt, t_nil, o_nil, POp.ev, Opd.ev, EOp.ev, env0, gu, gv, setD, resV, List.set, List.map, List.map_nil, List.map_cons, Option.map_none, Option.map_some, Option.some.injEq, exists_eq_left', pickV, binV, convV, load1V, max2V, min2V, nilchkV, unV, boolEq, isNilV, fadV, extV, slenV, ne_eq, not_true_eq_false, if_false, if_true, ite_true, ite_false, Bool.false_eq_true, Bool.true_eq_false, beq_true, beq_false, beq_self_eq_true, Bool.not_true, Bool.not_false, reduceCtorEq, List.getElem?_toArray, List.getElem?_cons_zero, List.getElem?_cons_succ, hbv, hst1, hst2]
  have hB2 : BoxT H ((H4.put q4 [vi 0, vi 0, vi 0]).put q5 [vi t.x, vi t.y, vi t.z]) p t := (hB.other (by omega) (by omega)).other (by omega) (by omega)
  have g4 : ((H4.put q4 [vi 0, vi 0, vi 0]).put q5 [vi t.x, vi t.y, vi t.z]).blk q4 = some [vi 0, vi 0, vi 0] := by rw [put_ne _ _ (by omega)]; exact put_same _ _ _
  have g5 : ((H4.put q4 [vi 0, vi 0, vi 0]).put q5 [vi t.x, vi t.y, vi t.z]).blk q5 = some [vi t.x, vi t.y, vi t.z] := put_same _ _ _
  have gn : ((H4.put q4 [vi 0, vi 0, vi 0]).put q5 [vi t.x, vi t.y, vi t.z]).next = H4.next := rfl
  generalize (H4.put q4 [vi 0, vi 0, vi 0]).put q5 [vi t.x, vi t.y, vi t.z] = H5 at hB2 g4 g5 gn ⊢
  clear hst1 hst2 h5' hB h4 h5
  have cap : ∀ H' : AHeap, BoxT H H' p t → H'.blk q = some [o] := fun H' h => by rw [h.ext.blk _ (by omega)]; exact hc
  have hcp := cap _ hB2
  have hlen8 : lenV (.slice (some ⟨q5, 0, some 0⟩) ord.length 3) = some (.int .i64 ord.length) := rfl
  have hasl2 : aslcV 3 1 (.pointer (some ⟨q5, 0, none⟩)) none (some (.int .i64 ord.length)) none = some (.slice (some ⟨q5, 0, some 0⟩) ord.length 3) := by
    have hbd : bounds 3 3 none (some (.int .i64 ord.length)) none = some (0, ord.length, 3) := by
      simp only [bounds, sliceB, intV, Option.bind_some]
      rw [if_pos (by omega)]
      simp
    simp only [aslcV, hbd, Option.bind_some]
    simp
  refine s_assoc (s_reg ?_)
  simp only [o_cont, o_callT, callV_fn, o_pure, o_eff, o_callF, o_callN, o_guard, gk_tt, gk_ff, gk_tf, gk_ft, gk_u, t_op, t_alt, t_nil, o_nil, POp.ev, Opd.ev, EOp.ev, env0, gu, gv, setD, resV, List.set, List.map, List.map_nil, List.map_cons, Option.map_none, Option.map_some, Option.some.injEq, exists_eq_left', pickV, binV, convV, load1V, max2V, min2V, nilchkV, unV, boolEq, isNilV, fadV, extV, slenV, ne_eq, not_true_eq_false, if_false, if_true, ite_true, ite_false, Bool.false_eq_true, Bool.true_eq_false, beq_true, beq_false, beq_self_eq_true, Bool.not_true, Bool.not_false, reduceCtorEq, List.getElem?_toArray, List.getElem?_cons_zero, List.getElem?_cons_succ, cell_blk hcp, List.getElem?_cons_zero, ho.lenV, hasl2, hlen8]
  refine s_cut (fun e'' H'' => ∃ x6 x7 : Value, ∃ x y z : Int, BoxT H H'' p t ∧ H''.blk q4 = some [vi x, vi y, vi z] ∧ (⟨t.c, x, y, z⟩ : Tm) = pm ord t ∧
    e'' = [tv t, .pointer (some ⟨q, 0, none⟩), .pointer (some ⟨p, 0, none⟩), .slice none 0 0, .pointer (some ⟨q4, 0, none⟩), .pointer (some ⟨q5, 0, none⟩), x6, x7, .slice (some ⟨q5, 0, some 0⟩) ord.length 3, .int .i64 ord.length, .int .i64 ord.length]) ?_ ?_
  · refine s_block1 ?_
    refine s_loop1 (fun j e' H' => ∃ (i : Nat) (eL : List Int) (x6 x7 : Value), i + j = ord.length ∧ BoxT H H' p t ∧ H'.blk q4 = some (eL.map vi) ∧ eL.length = 3 ∧ H'.blk q5 = some [vi t.x, vi t.y, vi t.z] ∧ exA t 0 ord [0, 0, 0] = exA t i (ord.drop i) eL ∧
      e' = [tv t, .pointer (some ⟨q, 0, none⟩), .pointer (some ⟨p, 0, none⟩), .slice none 0 0, .pointer (some ⟨q4, 0, none⟩), .pointer (some ⟨q5, 0, none⟩), x6, x7, .slice (some ⟨q5, 0, some 0⟩) ord.length 3, .int .i64 ord.length, .int .i64 i]) ord.length ⟨0, [0, 0, 0], _, _, by omega, hB2, g4, rfl, g5, rfl, rfl⟩ ?_
    clear hB2 g4 g5 gn hcp
    rintro j e' H6 ⟨i, eL, x6, x7, hij, hB6, g4, hel, g5, hex, rfl⟩
    refine s_test ?_
    simp only [o_cont, o_callT, callV_fn, o_pure, o_eff, o_callF, o_callN, o_guard, gk_tt, gk_ff, gk_tf, gk_ft, gk_u, t_op, t_alt, t_nil, o_nil, POp.ev, Opd.ev, EOp.ev, env0, gu, gv, setD, resV, List.set, List.map, List.map_nil, List.map_cons, Option.map_none, Option.map_some, Option.some.injEq, exists_eq_left', pickV, binV, convV, load1V, max2V, min2V, nilchkV, unV, boolEq, isNilV, fadV, extV, slenV, ne_eq, not_true_eq_false, if_false, if_true, ite_true, ite_false, Bool.false_eq_true, Bool.true_eq_false, beq_true, beq_false, beq_self_eq_true, Bool.not_true, Bool.not_false, reduceCtorEq, List.getElem?_toArray, List.getElem?_cons_zero, List.getElem?_cons_succ]
    refine Test.split (fun hlt => ?_) (fun hlt => ?_)
    · have hlt' : i < ord.length := by simpa using hlt
      have hi3 : i < 3 := by omega
      have hia : iadV 1 (.slice (some ⟨q5, 0, some 0⟩) ord.length 3) (.int .i64 i) = some (.pointer (some ⟨q5, i, none⟩)) := by simp [iadV, hlt']
      have hc5 : H6.cell q5 i = some (vi (ex t i)) := by
        rw [cell_blk g5]
        match i, hi3 with
        | 0, _ => rfl
        | 1, _ => rfl
        | 2, _ => rfl
      have hcp := cap _ hB6
      obtain ⟨b7, o7, k1, k2, k3⟩ := Ints.SlI.get (ho.keep (Keep.of_ext hB6.ext (Nat.le_refl _)) (Nat.le_refl _)) hlt'
      have hrd := r3 _ (List.getElem_mem hlt')
      obtain ⟨d, hd⟩ : ∃ d : Nat, ord[i] = (d : Int) := ⟨ord[i].toNat, by omega⟩
      rw [hd] at k3
      have hd3 : d < 3 := by omega
      have hst : storeH lim H6 1 (.pointer (some ⟨q4, d, none⟩)) (.int .i64 (ex t i)) = some (undef, H6.put q4 ((eL.map vi).set d (vi (ex t i)))) := store_int .i64 _ (by omega) g4 (by simp; omega)
      rw [List.drop_eq_getElem_cons hlt', exA, hd, Int.toNat_natCast] at hex
      refine s_skip1 ?_
      simp +decide only [p_seq_normal, p_seq_ret, p_seq_exit, p_block_normal, p_block_ret, p_block_exit, p_fin_ret, p_fin_normal, reduceIte, Nat.reduceEqDiff, resV, resOne, resL, gv, Option.some.injEq, exists_eq_left', Option.bind_some, Option.map_some, List.getD_cons_zero, List.getD_cons_succ]
      refine s_block ?_
      refine s_reg ?_
      simp only [o_cont, o_callT, callV_fn, o_pure, o_eff, o_callF, o_callN, o_guard, gk_tt, gk_ff, gk_tf, gk_ft, gk_u, t_op, t_alt, t_nil, o_nil, POp.ev, Opd.ev, EOp.ev, env0, gu, gv, setD, resV, List.set, List.map, List.map_nil, List.map_cons, Option.map_none, Option.map_some, Option.some.injEq, exists_eq_left', pickV, binV, convV, load1V, max2V, min2V, nilchkV, unV, boolEq, isNilV, fadV, extV, slenV, ne_eq, not_true_eq_false, if_false, if_true, ite_true, ite_false, Bool.false_eq_true, Bool.true_eq_false, beq_true, beq_false, beq_self_eq_true, Bool.not_true, Bool.not_false, reduceCtorEq, List.getElem?_toArray, List.getElem?_cons_zero, List.getElem?_cons_succ, hia, hc5]
      refine s_reg1 ?_
      simp only [o_cont, o_callT, callV_fn, o_pure, o_eff, o_callF, o_callN, o_guard, gk_tt, gk_ff, gk_tf, gk_ft, gk_u, t_op, t_alt, t_nil, o_nil, POp.ev, Opd.ev, EOp.ev, env0, gu, gv, setD, resV, List.set, List.map, List.map_nil, List.map_cons, Option.map_none, Option.map_some, Option.some.injEq, exists_eq_left', pickV, binV, convV, load1V, max2V, min2V, nilchkV, unV, boolEq, isNilV, fadV, extV, slenV, ne_eq, not_true_eq_false, if_false, if_true, ite_true, ite_false, Bool.false_eq_true, Bool.true_eq_false, beq_true, beq_false, beq_self_eq_true, Bool.not_true, Bool.not_false, reduceCtorEq, List.getElem?_toArray, List.getElem?_cons_zero, List.getElem?_cons_succ, cell_blk hcp, List.getElem?_cons_zero, k1, k3, aad_at hd3, hst]
      simp +decide only [p_seq_normal, p_seq_ret, p_seq_exit, p_block_normal, p_block_ret, p_block_exit, p_fin_ret, p_fin_normal, reduceIte, Nat.reduceEqDiff, resV, resOne, resL, gv, Option.some.injEq, exists_eq_left', Option.bind_some, Option.map_some, List.getD_cons_zero, List.getD_cons_succ]
      refine s_reg1 ?_
      simp only [o_cont, o_callT, callV_fn, o_pure, o_eff, o_callF, o_callN, o_guard, gk_tt, gk_ff, gk_tf, gk_ft, gk_u, t_op, t_alt, t_nil, o_nil, POp.ev, Opd.ev, EOp.ev, env0, gu, gv, setD, resV, List.set, List.map, List.map_nil, List.map_cons, Option.map_none, Option.map_some, Option.some.injEq, exists_eq_left', pickV, binV, convV, load1V, max2V, min2V, nilchkV, unV, boolEq, isNilV, fadV, extV, slenV, ne_eq, not_true_eq_false, if_false, if_true, ite_true, ite_false, Bool.false_eq_true, Bool.true_eq_false, beq_true, beq_false, beq_self_eq_true, Bool.not_true, Bool.not_false, reduceCtorEq, List.getElem?_toArray, List.getElem?_cons_zero, List.getElem?_cons_succ, add1 (i := i) (by omega)]
      simp +decide only [p_seq_normal, p_seq_ret, p_seq_exit, p_block_normal, p_block_ret, p_block_exit, p_fin_ret, p_fin_normal, reduceIte, Nat.reduceEqDiff, resV, resOne, resL, gv, Option.some.injEq, exists_eq_left', Option.bind_some, Option.map_some, List.getD_cons_zero, List.getD_cons_succ]
      exact Round.mk (j - 1) (by omega) ⟨i + 1, eL.set d (ex t i), _, _, by omega, hB6.other (by omega) (by omega), by rw [put_same, List.map_set], by simpa using hel, by rw [put_ne _ _ (by omega)]; exact g5, hex, rfl⟩
    · have hge : i = ord.length := by simp at hlt; omega
      refine s_exit1 ?_
      simp +decide only [p_seq_normal, p_seq_ret, p_seq_exit, p_block_normal, p_block_ret, p_block_exit, p_fin_ret, p_fin_normal, reduceIte, Nat.reduceEqDiff, resV, resOne, resL, gv, Option.some.injEq, exists_eq_left', Option.bind_some, Option.map_some, List.getD_cons_zero, List.getD_cons_succ]
      rw [hge, List.drop_length, exA] at hex
      obtain ⟨x, y, z, hxyz, hpm⟩ := exA_pm hor ht hnd
      rw [hxyz] at hex
      subst hex
      exact ⟨_, _, x, y, z, hB6, g4, hpm, by rw [hge]⟩
  rintro e'' H7 ⟨x6, x7, x, y, z, hB7, g7, hpm, rfl⟩
  have hn7 := hB7.lt
  have hld : loadNV H7 3 (.pointer (some ⟨q4, 0, none⟩)) = some (.agg #[vi x, vi y, vi z]) := load3 g7
  refine s_reg ?_
  simp only [o_cont, o_callT, callV_fn, o_pure, o_eff, o_callF, o_callN, o_guard, gk_tt, gk_ff, gk_tf, gk_ft, gk_u, t_op, t_alt, t_nil, o_nil, POp.ev, Opd.ev, EOp.ev, env0, gu, gv, setD, resV, List.set, List.map, List.map_nil, List.map_cons, Option.map_none, Option.map_some, Option.some.injEq, exists_eq_left', pickV, binV, convV, load1V, max2V, min2V, nilchkV, unV, boolEq, isNilV, fadV, extV, slenV, ne_eq, not_true_eq_false, if_false, if_true, ite_true, ite_false, Bool.false_eq_true, Bool.true_eq_false, beq_true, beq_false, beq_self_eq_true, Bool.not_true, Bool.not_false, reduceCtorEq, List.getElem?_toArray, List.getElem?_cons_zero, List.getElem?_cons_succ, Nat.zero_add, hB7.c0, hld]
  refine (termOf_ok lim _ _ _ _ _ (by omega)).mono ?_
  rintro _ H8 ⟨rfl, hx8⟩
  rw [hpm]
  simp only [o_cont, o_callT, callV_fn, o_pure, o_eff, o_callF, o_callN, o_guard, gk_tt, gk_ff, gk_tf, gk_ft, gk_u, t_op, t_alt, t_nil, o_nil, POp.ev, Opd.ev, EOp.ev, env0, gu, gv, setD, resV, List.set, List.map, List.map_nil, List.map_cons, Option.map_none, Option.map_some, Option.some.injEq, exists_eq_left', pickV, binV, convV, load1V, max2V, min2V, nilchkV, unV, boolEq, isNilV, fadV, extV, slenV, ne_eq, not_true_eq_false, if_false, if_true, ite_true, ite_false, Bool.false_eq_true, Bool.true_eq_false, beq_true, beq_false, beq_self_eq_true, Bool.not_true, Bool.not_false, reduceCtorEq, List.getElem?_toArray, List.getElem?_cons_zero, List.getElem?_cons_succ, bsliceT]
  refine s_ret1 ?_
  simp +decide only [p_seq_normal, p_seq_ret, p_seq_exit, p_block_normal, p_block_ret, p_block_exit, p_fin_ret, p_fin_normal, reduceIte, Nat.reduceEqDiff, resV, resOne, resL, gv, Option.some.injEq, exists_eq_left', Option.bind_some, Option.map_some, List.getD_cons_zero, List.getD_cons_succ]
  exact ⟨sl_one H8 _, (hB7.ext.trans hx8).trans (Ext.alloc _ _)⟩
end Go.Proofs.Ytaimceodhhgnnaa
