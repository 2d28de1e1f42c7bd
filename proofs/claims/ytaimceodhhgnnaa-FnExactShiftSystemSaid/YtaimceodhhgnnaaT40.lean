/- ShiftSystem: the walk of the implementation's side, systems; no condition beyond stated lengths. -/
import Derived.Test.YtaimceodhhgnnaaT39
namespace Go.Proofs.Ytaimceodhhgnnaa
open Go.Ab
set_option linter.unusedSimpArgs false
set_option linter.unusedVariables false

theorem flat_len {f : Tm → List Tm} : ∀ {p : List Tm}, (∀ t ∈ p, (f t).length ≤ 16) → (p.flatMap f).length ≤ 16 * p.length
  | [], _ => by simp
  | t :: p, h => by
    have h1 := h t (by simp)
    have h2 := flat_len (p := p) (fun x hx => h x (by simp [hx]))
    rw [List.flatMap_cons, List.length_append, List.length_cons]
    omega
def collR (f : Tm → List Tm) (ss : List (List Tm)) : Option (List (List Tm)) := if goodSS (ss.map fun p => coll (p.flatMap f)) then some (ss.map fun p => coll (p.flatMap f)) else none
theorem systemResultG_ok (lim : Nat) (s c1 c2 : Value) (g : FuncId) (f : Tm → List Tm) (ss : List (List Tm)) (H : AHeap) (hl : lim ≤ H.next) (hs : SlSS H s ss) (hn : ss.length ≤ 1000000) (hn2 : ∀ p ∈ ss, p.length ≤ 20) (hok : ∀ p ∈ ss, ∀ t ∈ p, okTm t = true ∧ t.c ≠ 0)
    (hf : ∀ p ∈ ss, ∀ t ∈ p, (f t).length ≤ 16)
    (hcl : ∀ (H' : AHeap) (t : Tm), Ext H H' → okTm t = true ∧ t.c ≠ 0 → ACalls Try.prog lim g [tv t, c1, c2] H' fun v H'' => SlT H'' v (f t) ∧ Ext H' H'') :
    ACalls Try.prog lim n_impl_systemResult [s, .func (.func g) #[] #[c1, c2]] H fun v H' => ResSS H' H.next v (collR f ss) ∧ Ext H H' := by
  refine is_impl_systemResult.go rfl ?_
  unfold c_impl_systemResult
  refine s_reg ?_
  simp only [o_cont, o_callT, callV_fn, o_pure, o_eff, o_callF, o_callN, o_guard, gk_tt, gk_ff, gk_tf, gk_ft, gk_u, t_op, t_alt, t_nil, o_nil, POp.ev, Opd.ev, EOp.ev, env0, gu, gv, setD, resV, List.set, List.map, List.map_nil, List.map_cons, Option.map_none, Option.map_some, Option.some.injEq, exists_eq_left', pickV, binV, convV, load1V, max2V, min2V, nilchkV, unV, boolEq, isNilV, fadV, extV, slenV, ne_eq, not_true_eq_false, if_false, if_true, ite_true, ite_false, Bool.false_eq_true, Bool.true_eq_false, beq_true, beq_false, beq_self_eq_true, Bool.not_true, Bool.not_false, reduceCtorEq, List.getElem?_toArray, List.getElem?_cons_zero, List.getElem?_cons_succ]
  refine s_reg ?_
  simp only [o_cont, o_callT, callV_fn, o_pure, o_eff, o_callF, o_callN, o_guard, gk_tt, gk_ff, gk_tf, gk_ft, gk_u, t_op, t_alt, t_nil, o_nil, POp.ev, Opd.ev, EOp.ev, env0, gu, gv, setD, resV, List.set, List.map, List.map_nil, List.map_cons, Option.map_none, Option.map_some, Option.some.injEq, exists_eq_left', pickV, binV, convV, load1V, max2V, min2V, nilchkV, unV, boolEq, isNilV, fadV, extV, slenV, ne_eq, not_true_eq_false, if_false, if_true, ite_true, ite_false, Bool.false_eq_true, Bool.true_eq_false, beq_true, beq_false, beq_self_eq_true, Bool.not_true, Bool.not_false, reduceCtorEq, List.getElem?_toArray, List.getElem?_cons_zero, List.getElem?_cons_succ]
  refine s_assoc (s_reg ?_)
  simp only [o_cont, o_callT, callV_fn, o_pure, o_eff, o_callF, o_callN, o_guard, gk_tt, gk_ff, gk_tf, gk_ft, gk_u, t_op, t_alt, t_nil, o_nil, POp.ev, Opd.ev, EOp.ev, env0, gu, gv, setD, resV, List.set, List.map, List.map_nil, List.map_cons, Option.map_none, Option.map_some, Option.some.injEq, exists_eq_left', pickV, binV, convV, load1V, max2V, min2V, nilchkV, unV, boolEq, isNilV, fadV, extV, slenV, ne_eq, not_true_eq_false, if_false, if_true, ite_true, ite_false, Bool.false_eq_true, Bool.true_eq_false, beq_true, beq_false, beq_self_eq_true, Bool.not_true, Bool.not_false, reduceCtorEq, List.getElem?_toArray, List.getElem?_cons_zero, List.getElem?_cons_succ, hs.lenV]
  refine s_block ?_
  refine s_loop1 (fun j e' H' => ∃ (i b : Nat) (vs : List Value) (bs : List Nat) (v x5 x6 x7 x11 x12 x13 : Value), i + j = ss.length ∧ GrowX H' H.next b vs bs v ((ss.take i).map fun p => coll (p.flatMap f)) ∧ Ext H H' ∧
    e' = [s, .func (.func g) #[] #[c1, c2], .slice none 0 0, .bool false, v, x5, x6, x7, s, .int .i64 ss.length, .int .i64 i, x11, x12, x13]) ss.length ⟨0, H.next, [], [], _, _, _, _, _, _, _, by omega, GrowX.nil' _, Ext.refl _, rfl⟩ ?_
  rintro j e' H' ⟨i, b, vs, bs, v, x5, x6, x7, x11, x12, x13, hij, hG, hx, rfl⟩
  have hnx := hx.next
  refine s_test ?_
  simp only [o_cont, o_callT, callV_fn, o_pure, o_eff, o_callF, o_callN, o_guard, gk_tt, gk_ff, gk_tf, gk_ft, gk_u, t_op, t_alt, t_nil, o_nil, POp.ev, Opd.ev, EOp.ev, env0, gu, gv, setD, resV, List.set, List.map, List.map_nil, List.map_cons, Option.map_none, Option.map_some, Option.some.injEq, exists_eq_left', pickV, binV, convV, load1V, max2V, min2V, nilchkV, unV, boolEq, isNilV, fadV, extV, slenV, ne_eq, not_true_eq_false, if_false, if_true, ite_true, ite_false, Bool.false_eq_true, Bool.true_eq_false, beq_true, beq_false, beq_self_eq_true, Bool.not_true, Bool.not_false, reduceCtorEq, List.getElem?_toArray, List.getElem?_cons_zero, List.getElem?_cons_succ]
  refine Test.split (fun hlt => ?_) (fun hlt => ?_)
  · have hlt' : i < ss.length := by simpa using hlt
    obtain ⟨b1, o1, s1, h1, h2, h3⟩ := (hs.ext hx).at hlt'
    have hpl := hn2 _ (List.getElem_mem hlt')
    have hpok := hok _ (List.getElem_mem hlt')
    have hfl := hf _ (List.getElem_mem hlt')
    have hfm := flat_len (f := f) hfl
    refine s_skip1 ?_
    simp +decide only [p_seq_normal, p_seq_ret, p_seq_exit, p_block_normal, p_block_ret, p_block_exit, p_fin_ret, p_fin_normal, reduceIte, Nat.reduceEqDiff, resV, resOne, resL, gv, Option.some.injEq, exists_eq_left', Option.bind_some, Option.map_some, List.getD_cons_zero, List.getD_cons_succ]
    refine s_block ?_
    refine s_reg ?_
    simp only [o_cont, o_callT, callV_fn, o_pure, o_eff, o_callF, o_callN, o_guard, gk_tt, gk_ff, gk_tf, gk_ft, gk_u, t_op, t_alt, t_nil, o_nil, POp.ev, Opd.ev, EOp.ev, env0, gu, gv, setD, resV, List.set, List.map, List.map_nil, List.map_cons, Option.map_none, Option.map_some, Option.some.injEq, exists_eq_left', pickV, binV, convV, load1V, max2V, min2V, nilchkV, unV, boolEq, isNilV, fadV, extV, slenV, ne_eq, not_true_eq_false, if_false, if_true, ite_true, ite_false, Bool.false_eq_true, Bool.true_eq_false, beq_true, beq_false, beq_self_eq_true, Bool.not_true, Bool.not_false, reduceCtorEq, List.getElem?_toArray, List.getElem?_cons_zero, List.getElem?_cons_succ, h1, h2]
    refine s_reg ?_
    simp only [o_cont, o_callT, callV_fn, o_pure, o_eff, o_callF, o_callN, o_guard, gk_tt, gk_ff, gk_tf, gk_ft, gk_u, t_op, t_alt, t_nil, o_nil, POp.ev, Opd.ev, EOp.ev, env0, gu, gv, setD, resV, List.set, List.map, List.map_nil, List.map_cons, Option.map_none, Option.map_some, Option.some.injEq, exists_eq_left', pickV, binV, convV, load1V, max2V, min2V, nilchkV, unV, boolEq, isNilV, fadV, extV, slenV, ne_eq, not_true_eq_false, if_false, if_true, ite_true, ite_false, Bool.false_eq_true, Bool.true_eq_false, beq_true, beq_false, beq_self_eq_true, Bool.not_true, Bool.not_false, reduceCtorEq, List.getElem?_toArray, List.getElem?_cons_zero, List.getElem?_cons_succ]
    refine s_cut1 (fun e'' H'' => ∃ (c : Nat) (w x7 x11 x12 x13 : Value), VecT H'' c w (ss[i].flatMap f) ∧ H'.next ≤ c ∧ c ≤ H''.next ∧ Ext H' H'' ∧ e'' = [s, .func (.func g) #[] #[c1, c2], .slice none 0 0, .bool false, v, s1, w, x7, s, .int .i64 ss.length, .int .i64 i, x11, x12, x13]) ?_ ?_
    · refine s_reg ?_
      simp only [o_cont, o_callT, callV_fn, o_pure, o_eff, o_callF, o_callN, o_guard, gk_tt, gk_ff, gk_tf, gk_ft, gk_u, t_op, t_alt, t_nil, o_nil, POp.ev, Opd.ev, EOp.ev, env0, gu, gv, setD, resV, List.set, List.map, List.map_nil, List.map_cons, Option.map_none, Option.map_some, Option.some.injEq, exists_eq_left', pickV, binV, convV, load1V, max2V, min2V, nilchkV, unV, boolEq, isNilV, fadV, extV, slenV, ne_eq, not_true_eq_false, if_false, if_true, ite_true, ite_false, Bool.false_eq_true, Bool.true_eq_false, beq_true, beq_false, beq_self_eq_true, Bool.not_true, Bool.not_false, reduceCtorEq, List.getElem?_toArray, List.getElem?_cons_zero, List.getElem?_cons_succ, h3.lenV]
      refine s_block1 ?_
      refine s_loop1 (fun j2 e' H2 => ∃ (k c : Nat) (w x7 : Value), k + j2 = ss[i].length ∧ VecT H2 c w ((ss[i].take k).flatMap f) ∧ H'.next ≤ c ∧ c ≤ H2.next ∧ Ext H' H2 ∧ e' = [s, .func (.func g) #[] #[c1, c2], .slice none 0 0, .bool false, v, s1, w, x7, s, .int .i64 ss.length, .int .i64 i, s1, .int .i64 ss[i].length, .int .i64 k]) ss[i].length ⟨0, H'.next, _, _, by omega, vecT_nil _ _, Nat.le_refl _, Nat.le_refl _, Ext.refl _, rfl⟩ ?_
      rintro j2 e' H2 ⟨k, c, w, x7, hkj, hv, hc1, hc2, hx2, rfl⟩
      have hnx2 := hx2.next
      refine s_test ?_
      simp only [o_cont, o_callT, callV_fn, o_pure, o_eff, o_callF, o_callN, o_guard, gk_tt, gk_ff, gk_tf, gk_ft, gk_u, t_op, t_alt, t_nil, o_nil, POp.ev, Opd.ev, EOp.ev, env0, gu, gv, setD, resV, List.set, List.map, List.map_nil, List.map_cons, Option.map_none, Option.map_some, Option.some.injEq, exists_eq_left', pickV, binV, convV, load1V, max2V, min2V, nilchkV, unV, boolEq, isNilV, fadV, extV, slenV, ne_eq, not_true_eq_false, if_false, if_true, ite_true, ite_false, Bool.false_eq_true, Bool.true_eq_false, beq_true, beq_false, beq_self_eq_true, Bool.not_true, Bool.not_false, reduceCtorEq, List.getElem?_toArray, List.getElem?_cons_zero, List.getElem?_cons_succ]
      refine Test.split (fun hlt2 => ?_) (fun hlt2 => ?_)
      · have hk : k < ss[i].length := by simpa using hlt2
        obtain ⟨b2, o2, k1, a2⟩ := (h3.ext hx2).at hk
        have hto := hpok _ (List.getElem_mem hk)
        generalize hte : ss[i][k] = t at a2 hto
        refine s_skip1 ?_
        simp +decide only [p_seq_normal, p_seq_ret, p_seq_exit, p_block_normal, p_block_ret, p_block_exit, p_fin_ret, p_fin_normal, reduceIte, Nat.reduceEqDiff, resV, resOne, resL, gv, Option.some.injEq, exists_eq_left', Option.bind_some, Option.map_some, List.getD_cons_zero, List.getD_cons_succ]
        refine s_block ?_
        refine s_reg ?_
        simp only [o_cont, o_callT, callV_fn, o_pure, o_eff, o_callF, o_callN, o_guard, gk_tt, gk_ff, gk_tf, gk_ft, gk_u, t_op, t_alt, t_nil, o_nil, POp.ev, Opd.ev, EOp.ev, env0, gu, gv, setD, resV, List.set, List.map, List.map_nil, List.map_cons, Option.map_none, Option.map_some, Option.some.injEq, exists_eq_left', pickV, binV, convV, load1V, max2V, min2V, nilchkV, unV, boolEq, isNilV, fadV, extV, slenV, ne_eq, not_true_eq_false, if_false, if_true, ite_true, ite_false, Bool.false_eq_true, Bool.true_eq_false, beq_true, beq_false, beq_self_eq_true, Bool.not_true, Bool.not_false, reduceCtorEq, List.getElem?_toArray, List.getElem?_cons_zero, List.getElem?_cons_succ, k1, a2.all, store4_new (lim := lim) (H := H2) (by omega)]
        have hB := BoxT.mk' H2 t
        generalize H2.alloc (tc t) = H3 at hB ⊢
        generalize hqe : H2.next = q at hB ⊢
        refine s_reg1 ?_
        simp only [o_cont, o_callT, callV_fn, o_pure, o_eff, o_callF, o_callN, o_guard, gk_tt, gk_ff, gk_tf, gk_ft, gk_u, t_op, t_alt, t_nil, o_nil, POp.ev, Opd.ev, EOp.ev, env0, gu, gv, setD, resV, List.set, List.map, List.map_nil, List.map_cons, Option.map_none, Option.map_some, Option.some.injEq, exists_eq_left', pickV, binV, convV, load1V, max2V, min2V, nilchkV, unV, boolEq, isNilV, fadV, extV, slenV, ne_eq, not_true_eq_false, if_false, if_true, ite_true, ite_false, Bool.false_eq_true, Bool.true_eq_false, beq_true, beq_false, beq_self_eq_true, Bool.not_true, Bool.not_false, reduceCtorEq, List.getElem?_toArray, List.getElem?_cons_zero, List.getElem?_cons_succ, hB.all, callV_clo, List.cons_append, List.nil_append]
        refine (hcl H3 t ((hx.trans hx2).trans hB.ext) hto).mono ?_
        rintro u H4 ⟨hu, hx4⟩
        have hxx := hB.ext.trans hx4
        have hn4 := hxx.next
        have hft : (f t).length ≤ 16 := by rw [← hte]; exact hfl _ (List.getElem_mem hk)
        have hfk := flat_len (f := f) (p := ss[i].take k) (fun x hx => hfl x (List.mem_of_mem_take hx))
        rw [List.length_take] at hfk
        obtain ⟨w', H5, c', g1, g2, g3, g5⟩ := appendT2 (lim := lim) (VecT.ext hv hxx) hu (by omega) (by omega)
        have hc5 := g5.next
        simp only [o_cont, o_callT, callV_fn, o_pure, o_eff, o_callF, o_callN, o_guard, gk_tt, gk_ff, gk_tf, gk_ft, gk_u, t_op, t_alt, t_nil, o_nil, POp.ev, Opd.ev, EOp.ev, env0, gu, gv, setD, resV, List.set, List.map, List.map_nil, List.map_cons, Option.map_none, Option.map_some, Option.some.injEq, exists_eq_left', pickV, binV, convV, load1V, max2V, min2V, nilchkV, unV, boolEq, isNilV, fadV, extV, slenV, ne_eq, not_true_eq_false, if_false, if_true, ite_true, ite_false, Bool.false_eq_true, Bool.true_eq_false, beq_true, beq_false, beq_self_eq_true, Bool.not_true, Bool.not_false, reduceCtorEq, List.getElem?_toArray, List.getElem?_cons_zero, List.getElem?_cons_succ, g1]
        simp +decide only [p_seq_normal, p_seq_ret, p_seq_exit, p_block_normal, p_block_ret, p_block_exit, p_fin_ret, p_fin_normal, reduceIte, Nat.reduceEqDiff, resV, resOne, resL, gv, Option.some.injEq, exists_eq_left', Option.bind_some, Option.map_some, List.getD_cons_zero, List.getD_cons_succ]
        refine s_reg1 ?_
        simp only [o_cont, o_callT, callV_fn, o_pure, o_eff, o_callF, o_callN, o_guard, gk_tt, gk_ff, gk_tf, gk_ft, gk_u, t_op, t_alt, t_nil, o_nil, POp.ev, Opd.ev, EOp.ev, env0, gu, gv, setD, resV, List.set, List.map, List.map_nil, List.map_cons, Option.map_none, Option.map_some, Option.some.injEq, exists_eq_left', pickV, binV, convV, load1V, max2V, min2V, nilchkV, unV, boolEq, isNilV, fadV, extV, slenV, ne_eq, not_true_eq_false, if_false, if_true, ite_true, ite_false, Bool.false_eq_true, Bool.true_eq_false, beq_true, beq_false, beq_self_eq_true, Bool.not_true, Bool.not_false, reduceCtorEq, List.getElem?_toArray, List.getElem?_cons_zero, List.getElem?_cons_succ, add1 (i := k) (by omega)]
        simp +decide only [p_seq_normal, p_seq_ret, p_seq_exit, p_block_normal, p_block_ret, p_block_exit, p_fin_ret, p_fin_normal, reduceIte, Nat.reduceEqDiff, resV, resOne, resL, gv, Option.some.injEq, exists_eq_left', Option.bind_some, Option.map_some, List.getD_cons_zero, List.getD_cons_succ]
        refine Round.mk (j2 - 1) (by omega) ⟨k + 1, c', w', _, by omega, ?_, by rcases g3 with rfl | g3 <;> omega, by omega, Chg.ext (hx2.trans hxx) g5 hc1, rfl⟩
        rw [List.take_succ_eq_append_getElem hk, hte, List.flatMap_append]
        simpa using g2
      · have hge : k = ss[i].length := by simp at hlt2; omega
        refine s_exit1 ?_
        simp +decide only [p_seq_normal, p_seq_ret, p_seq_exit, p_block_normal, p_block_ret, p_block_exit, p_fin_ret, p_fin_normal, reduceIte, Nat.reduceEqDiff, resV, resOne, resL, gv, Option.some.injEq, exists_eq_left', Option.bind_some, Option.map_some, List.getD_cons_zero, List.getD_cons_succ]
        rw [hge, List.take_length] at hv
        exact ⟨c, w, _, _, _, _, hv, hc1, hc2, hx2, rfl⟩
    rintro e'' H2 ⟨c, w, y7, y11, y12, y13, hv, hc1, hc2, hx2, rfl⟩
    have hnx2 := hx2.next
    refine s_reg1 ?_
    simp only [o_cont, o_callT, callV_fn, o_pure, o_eff, o_callF, o_callN, o_guard, gk_tt, gk_ff, gk_tf, gk_ft, gk_u, t_op, t_alt, t_nil, o_nil, POp.ev, Opd.ev, EOp.ev, env0, gu, gv, setD, resV, List.set, List.map, List.map_nil, List.map_cons, Option.map_none, Option.map_some, Option.some.injEq, exists_eq_left', pickV, binV, convV, load1V, max2V, min2V, nilchkV, unV, boolEq, isNilV, fadV, extV, slenV, ne_eq, not_true_eq_false, if_false, if_true, ite_true, ite_false, Bool.false_eq_true, Bool.true_eq_false, beq_true, beq_false, beq_self_eq_true, Bool.not_true, Bool.not_false, reduceCtorEq, List.getElem?_toArray, List.getElem?_cons_zero, List.getElem?_cons_succ]
    refine (collectG_ok lim _ _ _ (by omega) (Vec.sl hv) (by omega)).mono ?_
    rintro w3 H3 ⟨c3, hc31, hc32, hv3, hx3⟩
    have hcv : cellsV w3 = some [w3] := Vec.cellsV hv3
    have hnx3 := hx3.next
    obtain ⟨v', H4, b', g1, g2, g3⟩ := hG.push (lim := lim) (by omega) hx (Nat.le_refl _) (by omega) (hx2.trans hx3) (by omega) hc32 hv3 (by rw [List.length_map, List.length_take]; omega)
    simp only [o_cont, o_callT, callV_fn, o_pure, o_eff, o_callF, o_callN, o_guard, gk_tt, gk_ff, gk_tf, gk_ft, gk_u, t_op, t_alt, t_nil, o_nil, POp.ev, Opd.ev, EOp.ev, env0, gu, gv, setD, resV, List.set, List.map, List.map_nil, List.map_cons, Option.map_none, Option.map_some, Option.some.injEq, exists_eq_left', pickV, binV, convV, load1V, max2V, min2V, nilchkV, unV, boolEq, isNilV, fadV, extV, slenV, ne_eq, not_true_eq_false, if_false, if_true, ite_true, ite_false, Bool.false_eq_true, Bool.true_eq_false, beq_true, beq_false, beq_self_eq_true, Bool.not_true, Bool.not_false, reduceCtorEq, List.getElem?_toArray, List.getElem?_cons_zero, List.getElem?_cons_succ, bsliceV _ _ hcv, g1]
    simp +decide only [p_seq_normal, p_seq_ret, p_seq_exit, p_block_normal, p_block_ret, p_block_exit, p_fin_ret, p_fin_normal, reduceIte, Nat.reduceEqDiff, resV, resOne, resL, gv, Option.some.injEq, exists_eq_left', Option.bind_some, Option.map_some, List.getD_cons_zero, List.getD_cons_succ]
    refine s_reg1 ?_
    simp only [o_cont, o_callT, callV_fn, o_pure, o_eff, o_callF, o_callN, o_guard, gk_tt, gk_ff, gk_tf, gk_ft, gk_u, t_op, t_alt, t_nil, o_nil, POp.ev, Opd.ev, EOp.ev, env0, gu, gv, setD, resV, List.set, List.map, List.map_nil, List.map_cons, Option.map_none, Option.map_some, Option.some.injEq, exists_eq_left', pickV, binV, convV, load1V, max2V, min2V, nilchkV, unV, boolEq, isNilV, fadV, extV, slenV, ne_eq, not_true_eq_false, if_false, if_true, ite_true, ite_false, Bool.false_eq_true, Bool.true_eq_false, beq_true, beq_false, beq_self_eq_true, Bool.not_true, Bool.not_false, reduceCtorEq, List.getElem?_toArray, List.getElem?_cons_zero, List.getElem?_cons_succ, add1 (i := i) (by omega)]
    simp +decide only [p_seq_normal, p_seq_ret, p_seq_exit, p_block_normal, p_block_ret, p_block_exit, p_fin_ret, p_fin_normal, reduceIte, Nat.reduceEqDiff, resV, resOne, resL, gv, Option.some.injEq, exists_eq_left', Option.bind_some, Option.map_some, List.getD_cons_zero, List.getD_cons_succ]
    refine Round.mk (j - 1) (by omega) ⟨i + 1, b', vs ++ [w3], bs ++ [c3], v', _, _, _, _, _, _, by omega, ?_, g3, rfl⟩
    rw [List.take_add_one, List.getElem?_eq_getElem hlt', List.map_append]
    exact g2
  · have hge : i = ss.length := by simp at hlt; omega
    subst hge
    rw [List.take_length] at hG
    have hO := hG.own
    refine s_exit1 ?_
    simp +decide only [p_seq_normal, p_seq_ret, p_seq_exit, p_block_normal, p_block_ret, p_block_exit, p_fin_ret, p_fin_normal, reduceIte, Nat.reduceEqDiff, resV, resOne, resL, gv, Option.some.injEq, exists_eq_left', Option.bind_some, Option.map_some, List.getD_cons_zero, List.getD_cons_succ]
    refine s_test ?_
    simp only [o_cont, o_callT, callV_fn, o_pure, o_eff, o_callF, o_callN, o_guard, gk_tt, gk_ff, gk_tf, gk_ft, gk_u, t_op, t_alt, t_nil, o_nil, POp.ev, Opd.ev, EOp.ev, env0, gu, gv, setD, resV, List.set, List.map, List.map_nil, List.map_cons, Option.map_none, Option.map_some, Option.some.injEq, exists_eq_left', pickV, binV, convV, load1V, max2V, min2V, nilchkV, unV, boolEq, isNilV, fadV, extV, slenV, ne_eq, not_true_eq_false, if_false, if_true, ite_true, ite_false, Bool.false_eq_true, Bool.true_eq_false, beq_true, beq_false, beq_self_eq_true, Bool.not_true, Bool.not_false, reduceCtorEq, List.getElem?_toArray, List.getElem?_cons_zero, List.getElem?_cons_succ]
    refine (isSystem_ok lim _ _ _ (by omega) hO.slss (by simpa using hn) (by intro p hp; obtain ⟨q, hq, rfl⟩ := List.mem_map.1 hp; have h1 := hn2 q hq; have h2 := coll_length (q.flatMap f); have h3 := flat_len (f := f) (hf q hq); omega)).mono ?_
    rintro _ H2 ⟨rfl, hx2⟩
    have hnx2 := hx2.next
    simp only [o_cont, o_callT, callV_fn, o_pure, o_eff, o_callF, o_callN, o_guard, gk_tt, gk_ff, gk_tf, gk_ft, gk_u, t_op, t_alt, t_nil, o_nil, POp.ev, Opd.ev, EOp.ev, env0, gu, gv, setD, resV, List.set, List.map, List.map_nil, List.map_cons, Option.map_none, Option.map_some, Option.some.injEq, exists_eq_left', pickV, binV, convV, load1V, max2V, min2V, nilchkV, unV, boolEq, isNilV, fadV, extV, slenV, ne_eq, not_true_eq_false, if_false, if_true, ite_true, ite_false, Bool.false_eq_true, Bool.true_eq_false, beq_true, beq_false, beq_self_eq_true, Bool.not_true, Bool.not_false, reduceCtorEq, List.getElem?_toArray, List.getElem?_cons_zero, List.getElem?_cons_succ]
    unfold collR
    refine Test.split (fun hg => ?_) (fun hg => ?_)
    · simp only [Bool.not_eq_true'] at hg
      refine s_reg ?_
      simp only [o_cont, o_callT, callV_fn, o_pure, o_eff, o_callF, o_callN, o_guard, gk_tt, gk_ff, gk_tf, gk_ft, gk_u, t_op, t_alt, t_nil, o_nil, POp.ev, Opd.ev, EOp.ev, env0, gu, gv, setD, resV, List.set, List.map, List.map_nil, List.map_cons, Option.map_none, Option.map_some, Option.some.injEq, exists_eq_left', pickV, binV, convV, load1V, max2V, min2V, nilchkV, unV, boolEq, isNilV, fadV, extV, slenV, ne_eq, not_true_eq_false, if_false, if_true, ite_true, ite_false, Bool.false_eq_true, Bool.true_eq_false, beq_true, beq_false, beq_self_eq_true, Bool.not_true, Bool.not_false, reduceCtorEq, List.getElem?_toArray, List.getElem?_cons_zero, List.getElem?_cons_succ]
      refine s_ret1 ?_
      simp +decide only [p_seq_normal, p_seq_ret, p_seq_exit, p_block_normal, p_block_ret, p_block_exit, p_fin_ret, p_fin_normal, reduceIte, Nat.reduceEqDiff, resV, resOne, resL, gv, Option.some.injEq, exists_eq_left', Option.bind_some, Option.map_some, List.getD_cons_zero, List.getD_cons_succ]
      rw [hg]
      exact ⟨⟨.slice none 0 0, rfl, .inl ⟨rfl, rfl⟩⟩, hx.trans hx2⟩
    · simp only [Bool.not_eq_false'] at hg
      refine s_skip1 ?_
      simp +decide only [p_seq_normal, p_seq_ret, p_seq_exit, p_block_normal, p_block_ret, p_block_exit, p_fin_ret, p_fin_normal, reduceIte, Nat.reduceEqDiff, resV, resOne, resL, gv, Option.some.injEq, exists_eq_left', Option.bind_some, Option.map_some, List.getD_cons_zero, List.getD_cons_succ]
      refine s_reg ?_
      simp only [o_cont, o_callT, callV_fn, o_pure, o_eff, o_callF, o_callN, o_guard, gk_tt, gk_ff, gk_tf, gk_ft, gk_u, t_op, t_alt, t_nil, o_nil, POp.ev, Opd.ev, EOp.ev, env0, gu, gv, setD, resV, List.set, List.map, List.map_nil, List.map_cons, Option.map_none, Option.map_some, Option.some.injEq, exists_eq_left', pickV, binV, convV, load1V, max2V, min2V, nilchkV, unV, boolEq, isNilV, fadV, extV, slenV, ne_eq, not_true_eq_false, if_false, if_true, ite_true, ite_false, Bool.false_eq_true, Bool.true_eq_false, beq_true, beq_false, beq_self_eq_true, Bool.not_true, Bool.not_false, reduceCtorEq, List.getElem?_toArray, List.getElem?_cons_zero, List.getElem?_cons_succ]
      refine s_ret1 ?_
      simp +decide only [p_seq_normal, p_seq_ret, p_seq_exit, p_block_normal, p_block_ret, p_block_exit, p_fin_ret, p_fin_normal, reduceIte, Nat.reduceEqDiff, resV, resOne, resL, gv, Option.some.injEq, exists_eq_left', Option.bind_some, Option.map_some, List.getD_cons_zero, List.getD_cons_succ]
      rw [hg]
      exact ⟨⟨v, rfl, (hO.ext hx2).wide (Nat.le_refl _) hnx2⟩, hx.trans hx2⟩

theorem iShift_ok (lim : Nat) (s : Value) (ss : List (List Tm)) (k n : Int) (H : AHeap) (hl : lim ≤ H.next) (hs : SlSS H s ss) (hn : ss.length ≤ 1000000) (hn2 : ∀ p ∈ ss, p.length ≤ 1000000) :
    ACalls Try.prog lim n_impl_ShiftSystem [s, .int .i64 k, .int .i64 n] H fun v H' => ResSS H' H.next v (shR ss k n) ∧ Ext H H' := by
  refine is_impl_ShiftSystem.go rfl ?_
  unfold c_impl_ShiftSystem
  have hsub : IntKind.i64.wrap ((ss.length : Int) - 1) = (ss.length : Int) - 1 := by rw [IntKind.wrap_i64]; omega
  have hb1 : boxH H (.int .i64 k) = some (.pointer (some ⟨H.next, 0, none⟩), H.alloc [vi k]) := rfl
  have hb2 : ∀ G : AHeap, boxH G (.int .i64 n) = some (.pointer (some ⟨G.next, 0, none⟩), G.alloc [vi n]) := fun G => rfl
  refine s_reg ?_
  simp only [o_cont, o_callT, callV_fn, o_pure, o_eff, o_callF, o_callN, o_guard, gk_tt, gk_ff, gk_tf, gk_ft, gk_u, t_op, t_alt, t_nil, o_nil, POp.ev, Opd.ev, EOp.ev, env0, gu, gv, setD, resV, List.set, List.map, List.map_nil, List.map_cons, Option.map_none, Option.map_some, Option.some.injEq, exists_eq_left', pickV, binV, convV, load1V, max2V, min2V, nilchkV, unV, boolEq, isNilV, fadV, extV, slenV, ne_eq, not_true_eq_false, if_false, if_true, ite_true, ite_false, Bool.false_eq_true, Bool.true_eq_false, beq_true, beq_false, beq_self_eq_true, Bool.not_true, Bool.not_false, reduceCtorEq, List.getElem?_toArray, List.getElem?_cons_zero, List.getElem?_cons_succ, hb1, hb2]
  have hx1 := Ext.alloc H [vi k]
  have hk1 : (H.alloc [vi k]).blk H.next = some [vi k] := alloc_new _ _
  have hn1 : (H.alloc [vi k]).next = H.next + 1 := rfl
  generalize H.alloc [vi k] = H1 at hx1 hk1 hn1 ⊢
  have hx2 := Ext.alloc H1 [vi n]
  have hk2 : (H1.alloc [vi n]).blk H1.next = some [vi n] := alloc_new _ _
  have hn3 : (H1.alloc [vi n]).next = H1.next + 1 := rfl
  rw [← hx2.blk _ (by omega)] at hk1
  replace hx1 := hx1.trans hx2
  generalize H1.alloc [vi n] = H2 at hx1 hx2 hk1 hk2 hn3 ⊢
  generalize hqu : H.next = qu at *
  generalize hqn : H1.next = qn at *
  have hs2 := hs.ext hx1
  refine s_test_I (!shA ss k n) (Ext H2) ?_ (fun H3 hx hg => ?_) (fun H3 hx hg => ?_)
  · simp only [o_cont, o_callT, callV_fn, o_pure, o_eff, o_callF, o_callN, o_guard, gk_tt, gk_ff, gk_tf, gk_ft, gk_u, t_op, t_alt, t_nil, o_nil, POp.ev, Opd.ev, EOp.ev, env0, gu, gv, setD, resV, List.set, List.map, List.map_nil, List.map_cons, Option.map_none, Option.map_some, Option.some.injEq, exists_eq_left', pickV, binV, convV, load1V, max2V, min2V, nilchkV, unV, boolEq, isNilV, fadV, extV, slenV, ne_eq, not_true_eq_false, if_false, if_true, ite_true, ite_false, Bool.false_eq_true, Bool.true_eq_false, beq_true, beq_false, beq_self_eq_true, Bool.not_true, Bool.not_false, reduceCtorEq, List.getElem?_toArray, List.getElem?_cons_zero, List.getElem?_cons_succ]
    refine (isSystem_ok lim _ _ _ (by omega) hs2 hn hn2).mono ?_
    rintro _ H3 ⟨rfl, hx⟩
    have hk1' : H3.blk qu = some [vi k] := by rw [hx.blk _ (by omega)]; exact hk1
    have hk2' : H3.blk qn = some [vi n] := by rw [hx.blk _ (by omega)]; exact hk2
    unfold shA inU
    cases hg : goodSS ss
    · simp only [o_cont, o_callT, callV_fn, o_pure, o_eff, o_callF, o_callN, o_guard, gk_tt, gk_ff, gk_tf, gk_ft, gk_u, t_op, t_alt, t_nil, o_nil, POp.ev, Opd.ev, EOp.ev, env0, gu, gv, setD, resV, List.set, List.map, List.map_nil, List.map_cons, Option.map_none, Option.map_some, Option.some.injEq, exists_eq_left', pickV, binV, convV, load1V, max2V, min2V, nilchkV, unV, boolEq, isNilV, fadV, extV, slenV, ne_eq, not_true_eq_false, if_false, if_true, ite_true, ite_false, Bool.false_eq_true, Bool.true_eq_false, beq_true, beq_false, beq_self_eq_true, Bool.not_true, Bool.not_false, reduceCtorEq, List.getElem?_toArray, List.getElem?_cons_zero, List.getElem?_cons_succ]
      simp [hx]
    · simp only [o_cont, o_callT, callV_fn, o_pure, o_eff, o_callF, o_callN, o_guard, gk_tt, gk_ff, gk_tf, gk_ft, gk_u, t_op, t_alt, t_nil, o_nil, POp.ev, Opd.ev, EOp.ev, env0, gu, gv, setD, resV, List.set, List.map, List.map_nil, List.map_cons, Option.map_none, Option.map_some, Option.some.injEq, exists_eq_left', pickV, binV, convV, load1V, max2V, min2V, nilchkV, unV, boolEq, isNilV, fadV, extV, slenV, ne_eq, not_true_eq_false, if_false, if_true, ite_true, ite_false, Bool.false_eq_true, Bool.true_eq_false, beq_true, beq_false, beq_self_eq_true, Bool.not_true, Bool.not_false, reduceCtorEq, List.getElem?_toArray, List.getElem?_cons_zero, List.getElem?_cons_succ, hs.lenV, hsub, cell_blk hk1', List.getElem?_cons_zero]
      refine (inside_ok _ _ _ _ _).eq ?_
      cases h1 : decide (0 ≤ k) && decide (k ≤ (ss.length : Int) - 1)
      · simp only [o_cont, o_callT, callV_fn, o_pure, o_eff, o_callF, o_callN, o_guard, gk_tt, gk_ff, gk_tf, gk_ft, gk_u, t_op, t_alt, t_nil, o_nil, POp.ev, Opd.ev, EOp.ev, env0, gu, gv, setD, resV, List.set, List.map, List.map_nil, List.map_cons, Option.map_none, Option.map_some, Option.some.injEq, exists_eq_left', pickV, binV, convV, load1V, max2V, min2V, nilchkV, unV, boolEq, isNilV, fadV, extV, slenV, ne_eq, not_true_eq_false, if_false, if_true, ite_true, ite_false, Bool.false_eq_true, Bool.true_eq_false, beq_true, beq_false, beq_self_eq_true, Bool.not_true, Bool.not_false, reduceCtorEq, List.getElem?_toArray, List.getElem?_cons_zero, List.getElem?_cons_succ]
        simp [hx]
      · simp only [o_cont, o_callT, callV_fn, o_pure, o_eff, o_callF, o_callN, o_guard, gk_tt, gk_ff, gk_tf, gk_ft, gk_u, t_op, t_alt, t_nil, o_nil, POp.ev, Opd.ev, EOp.ev, env0, gu, gv, setD, resV, List.set, List.map, List.map_nil, List.map_cons, Option.map_none, Option.map_some, Option.some.injEq, exists_eq_left', pickV, binV, convV, load1V, max2V, min2V, nilchkV, unV, boolEq, isNilV, fadV, extV, slenV, ne_eq, not_true_eq_false, if_false, if_true, ite_true, ite_false, Bool.false_eq_true, Bool.true_eq_false, beq_true, beq_false, beq_self_eq_true, Bool.not_true, Bool.not_false, reduceCtorEq, List.getElem?_toArray, List.getElem?_cons_zero, List.getElem?_cons_succ, cell_blk hk2', List.getElem?_cons_zero]
        refine (inside_ok _ _ _ _ _).eq ?_
        simp only [o_cont, o_callT, callV_fn, o_pure, o_eff, o_callF, o_callN, o_guard, gk_tt, gk_ff, gk_tf, gk_ft, gk_u, t_op, t_alt, t_nil, o_nil, POp.ev, Opd.ev, EOp.ev, env0, gu, gv, setD, resV, List.set, List.map, List.map_nil, List.map_cons, Option.map_none, Option.map_some, Option.some.injEq, exists_eq_left', pickV, binV, convV, load1V, max2V, min2V, nilchkV, unV, boolEq, isNilV, fadV, extV, slenV, ne_eq, not_true_eq_false, if_false, if_true, ite_true, ite_false, Bool.false_eq_true, Bool.true_eq_false, beq_true, beq_false, beq_self_eq_true, Bool.not_true, Bool.not_false, reduceCtorEq, List.getElem?_toArray, List.getElem?_cons_zero, List.getElem?_cons_succ]
        simp [hx]
  · simp only [Bool.not_eq_true'] at hg
    refine s_reg ?_
    simp only [o_cont, o_callT, callV_fn, o_pure, o_eff, o_callF, o_callN, o_guard, gk_tt, gk_ff, gk_tf, gk_ft, gk_u, t_op, t_alt, t_nil, o_nil, POp.ev, Opd.ev, EOp.ev, env0, gu, gv, setD, resV, List.set, List.map, List.map_nil, List.map_cons, Option.map_none, Option.map_some, Option.some.injEq, exists_eq_left', pickV, binV, convV, load1V, max2V, min2V, nilchkV, unV, boolEq, isNilV, fadV, extV, slenV, ne_eq, not_true_eq_false, if_false, if_true, ite_true, ite_false, Bool.false_eq_true, Bool.true_eq_false, beq_true, beq_false, beq_self_eq_true, Bool.not_true, Bool.not_false, reduceCtorEq, List.getElem?_toArray, List.getElem?_cons_zero, List.getElem?_cons_succ]
    refine s_ret1 ?_
    simp +decide only [p_seq_normal, p_seq_ret, p_seq_exit, p_block_normal, p_block_ret, p_block_exit, p_fin_ret, p_fin_normal, reduceIte, Nat.reduceEqDiff, resV, resOne, resL, gv, Option.some.injEq, exists_eq_left', Option.bind_some, Option.map_some, List.getD_cons_zero, List.getD_cons_succ]
    refine ⟨⟨.slice none 0 0, ?_, ?_⟩, hx1.trans hx⟩
    · simp [shR, hg]
    · simp [shR, hg]
      exact .inl ⟨rfl, rfl⟩
  · simp only [Bool.not_eq_false'] at hg
    have hgi := hg
    simp only [shA, inU, Bool.and_eq_true, decide_eq_true_eq] at hgi
    obtain ⟨⟨hgd, hk3, hk4⟩, hn8⟩ := hgi
    obtain ⟨_, hl3, hall⟩ := goodSS_all hgd
    obtain ⟨k, rfl⟩ : ∃ m : Nat, k = m := ⟨k.toNat, by omega⟩
    have hnx := hx.next
    have hk1' : H3.blk qu = some [vi k] := by rw [hx.blk _ (by omega)]; exact hk1
    have hk2' : H3.blk qn = some [vi n] := by rw [hx.blk _ (by omega)]; exact hk2
    have hR : collR (shT k n) ss = shR ss k n := by
      have e : (ss.map fun p => coll (p.flatMap (shT k n))) = ss.map (shP k n) := List.map_congr_left fun p hp => shP_coll (hall p hp).2.1
      unfold collR shR
      rw [e, hg, Bool.true_and]
    refine s_skip1 ?_
    simp +decide only [p_seq_normal, p_seq_ret, p_seq_exit, p_block_normal, p_block_ret, p_block_exit, p_fin_ret, p_fin_normal, reduceIte, Nat.reduceEqDiff, resV, resOne, resL, gv, Option.some.injEq, exists_eq_left', Option.bind_some, Option.map_some, List.getD_cons_zero, List.getD_cons_succ]
    refine s_reg ?_
    simp only [o_cont, o_callT, callV_fn, o_pure, o_eff, o_callF, o_callN, o_guard, gk_tt, gk_ff, gk_tf, gk_ft, gk_u, t_op, t_alt, t_nil, o_nil, POp.ev, Opd.ev, EOp.ev, env0, gu, gv, setD, resV, List.set, List.map, List.map_nil, List.map_cons, Option.map_none, Option.map_some, Option.some.injEq, exists_eq_left', pickV, binV, convV, load1V, max2V, min2V, nilchkV, unV, boolEq, isNilV, fadV, extV, slenV, ne_eq, not_true_eq_false, if_false, if_true, ite_true, ite_false, Bool.false_eq_true, Bool.true_eq_false, beq_true, beq_false, beq_self_eq_true, Bool.not_true, Bool.not_false, reduceCtorEq, List.getElem?_toArray, List.getElem?_cons_zero, List.getElem?_cons_succ]
    refine (systemResultG_ok lim s _ _ _ (shT k n) ss H3 (by omega) ((hs2.ext hx)) hn (fun p hp => (hall p hp).1) (fun p hp => (hall p hp).2.1) (fun p hp t ht => (shT_fine ((hall p hp).2.1 t ht).1 ((hall p hp).2.1 t ht).2).len) (fun H' t hx' ht => ?_)).mono ?_
    · have hnx' := hx'.next
      exact shift1_ok lim t qu qn k n H' (by omega) (by omega) (by omega) (by rw [hx'.blk _ (by omega)]; exact hk1') (by rw [hx'.blk _ (by omega)]; exact hk2') (by omega) hn8 ht.1 ht.2
    rintro _ H4 ⟨⟨x, rfl, hO⟩, hx4⟩
    simp only [o_cont, o_callT, callV_fn, o_pure, o_eff, o_callF, o_callN, o_guard, gk_tt, gk_ff, gk_tf, gk_ft, gk_u, t_op, t_alt, t_nil, o_nil, POp.ev, Opd.ev, EOp.ev, env0, gu, gv, setD, resV, List.set, List.map, List.map_nil, List.map_cons, Option.map_none, Option.map_some, Option.some.injEq, exists_eq_left', pickV, binV, convV, load1V, max2V, min2V, nilchkV, unV, boolEq, isNilV, fadV, extV, slenV, ne_eq, not_true_eq_false, if_false, if_true, ite_true, ite_false, Bool.false_eq_true, Bool.true_eq_false, beq_true, beq_false, beq_self_eq_true, Bool.not_true, Bool.not_false, reduceCtorEq, List.getElem?_toArray, List.getElem?_cons_zero, List.getElem?_cons_succ]
    refine s_ret1 ?_
    simp +decide only [p_seq_normal, p_seq_ret, p_seq_exit, p_block_normal, p_block_ret, p_block_exit, p_fin_ret, p_fin_normal, reduceIte, Nat.reduceEqDiff, resV, resOne, resL, gv, Option.some.injEq, exists_eq_left', Option.bind_some, Option.map_some, List.getD_cons_zero, List.getD_cons_succ]
    rw [hR] at hO ⊢
    have hnx4 := hx4.next
    exact ⟨⟨x, rfl, hO.wide (by omega) (Nat.le_refl _)⟩, (hx1.trans hx).trans hx4⟩
end Go.Proofs.Ytaimceodhhgnnaa
