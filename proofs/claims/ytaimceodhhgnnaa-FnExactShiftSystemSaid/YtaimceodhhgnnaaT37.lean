/- ShiftSystem: the walk of the specification's side, one term; no condition beyond stated ranges. -/
import Derived.Test.YtaimceodhhgnnaaT36
namespace Go.Proofs.Ytaimceodhhgnnaa
open Go.Ab
set_option linter.unusedSimpArgs false
set_option linter.unusedVariables false

theorem box_store {lim : Nat} {Hb G : AHeap} {q : Nat} {a b c d : Value} (u : Tm) (hx : Ext Hb G) (h1 : Hb.next ≤ q) (h2 : q < G.next) (h3 : G.blk q = some [a, b, c, d]) (hl : lim ≤ q) :
    storeH lim G 4 (.pointer (some ⟨q, 0, none⟩)) (tv u) = some (undef, G.put q (tc u)) ∧ BoxT Hb (G.put q (tc u)) q u :=
  ⟨store4 hl h3, Chg.ext hx (Chg.put _ _ _) h1, h1, h2, put_same _ _ _⟩

theorem tfPower_ok (lim : Nat) (t : Tm) (k n : Int) (e : Nat) (H : AHeap) (hl : lim ≤ H.next) (hn : -8 ≤ n ∧ n ≤ 8) (he : e ≤ 4) (hf : ∀ j, j ≤ e → Fine 8 16 (powF k n j [t0 k t])) :
    ACalls Try.prog lim n_spec_tfPower [tv t, .int .i64 k, .int .i64 n, .int .i64 e] H fun v H' => SlT H' v (powF k n e [t0 k t]) ∧ Ext H H' := by
  refine is_spec_tfPower.go rfl ?_
  unfold c_spec_tfPower
  have wn : IntKind.i64.wrap (0 - n) = -n := by rw [IntKind.wrap_i64]; omega
  refine s_reg ?_
  simp only [o_cont, o_callT, callV_fn, o_pure, o_eff, o_callF, o_callN, o_guard, gk_tt, gk_ff, gk_tf, gk_ft, gk_u, t_op, t_alt, t_nil, o_nil, POp.ev, Opd.ev, EOp.ev, env0, gu, gv, setD, resV, List.set, List.map, List.map_nil, List.map_cons, Option.map_none, Option.map_some, Option.some.injEq, exists_eq_left', pickV, binV, convV, load1V, max2V, min2V, nilchkV, unV, boolEq, isNilV, fadV, extV, slenV, ne_eq, not_true_eq_false, if_false, if_true, ite_true, ite_false, Bool.false_eq_true, Bool.true_eq_false, beq_true, beq_false, beq_self_eq_true, Bool.not_true, Bool.not_false, reduceCtorEq, List.getElem?_toArray, List.getElem?_cons_zero, List.getElem?_cons_succ, boxT]
  have hB := BoxT.mk' H t
  generalize H.alloc (tc t) = H1 at hB ⊢
  generalize hpe : H.next = p at hB hl ⊢
  have hge := hB.ge
  have hlt1 := hB.lt
  refine s_reg ?_
  simp only [o_cont, o_callT, callV_fn, o_pure, o_eff, o_callF, o_callN, o_guard, gk_tt, gk_ff, gk_tf, gk_ft, gk_u, t_op, t_alt, t_nil, o_nil, POp.ev, Opd.ev, EOp.ev, env0, gu, gv, setD, resV, List.set, List.map, List.map_nil, List.map_cons, Option.map_none, Option.map_some, Option.some.injEq, exists_eq_left', pickV, binV, convV, load1V, max2V, min2V, nilchkV, unV, boolEq, isNilV, fadV, extV, slenV, ne_eq, not_true_eq_false, if_false, if_true, ite_true, ite_false, Bool.false_eq_true, Bool.true_eq_false, beq_true, beq_false, beq_self_eq_true, Bool.not_true, Bool.not_false, reduceCtorEq, List.getElem?_toArray, List.getElem?_cons_zero, List.getElem?_cons_succ, hB.all]
  refine (poWith_ok lim _ _ _ _ (by omega)).mono ?_
  rintro _ H2 ⟨rfl, hx2⟩
  have hnx2 := hx2.next
  simp only [o_cont, o_callT, callV_fn, o_pure, o_eff, o_callF, o_callN, o_guard, gk_tt, gk_ff, gk_tf, gk_ft, gk_u, t_op, t_alt, t_nil, o_nil, POp.ev, Opd.ev, EOp.ev, env0, gu, gv, setD, resV, List.set, List.map, List.map_nil, List.map_cons, Option.map_none, Option.map_some, Option.some.injEq, exists_eq_left', pickV, binV, convV, load1V, max2V, min2V, nilchkV, unV, boolEq, isNilV, fadV, extV, slenV, ne_eq, not_true_eq_false, if_false, if_true, ite_true, ite_false, Bool.false_eq_true, Bool.true_eq_false, beq_true, beq_false, beq_self_eq_true, Bool.not_true, Bool.not_false, reduceCtorEq, List.getElem?_toArray, List.getElem?_cons_zero, List.getElem?_cons_succ, bsliceT]
  have hx3 := Ext.alloc H2 (tc (t0 k t))
  have ho := sl_one H2 (t0 k t)
  change SlT (H2.alloc (tc (wi t k 0))) _ _ at ho
  change Ext H2 (H2.alloc (tc (wi t k 0))) at hx3
  generalize H2.alloc (tc (wi t k 0)) = H3 at hx3 ho ⊢
  have hx03 : Ext H H3 := (hB.ext.trans hx2).trans hx3
  generalize hsl : Value.slice (some ⟨H2.next, 0, some 0⟩) 1 1 = sl at ho ⊢
  refine s_block ?_
  refine s_loop1 (fun r e' H' => ∃ (j : Nat) (v6 x7 x8 x9 x10 x11 x12 : Value), j + r = e ∧ SlT H' v6 (powF k n j [t0 k t]) ∧ Ext H H' ∧ e' = [tv t, .int .i64 k, .int .i64 n, .int .i64 r, .pointer (some ⟨p, 0, none⟩), .slice none 0 0, v6, x7, x8, x9, x10, x11, x12]) e ⟨0, sl, _, _, _, _, _, _, by omega, ho, hx03, rfl⟩ ?_
  clear ho hx03 hx3 hsl sl hx2 hnx2 hB hge hlt1
  rintro r e' H4 ⟨j, v6, x7, x8, x9, x10, x11, x12, hjr, hv6, hx, rfl⟩
  have hnx := hx.next
  refine s_test ?_
  simp only [o_cont, o_callT, callV_fn, o_pure, o_eff, o_callF, o_callN, o_guard, gk_tt, gk_ff, gk_tf, gk_ft, gk_u, t_op, t_alt, t_nil, o_nil, POp.ev, Opd.ev, EOp.ev, env0, gu, gv, setD, resV, List.set, List.map, List.map_nil, List.map_cons, Option.map_none, Option.map_some, Option.some.injEq, exists_eq_left', pickV, binV, convV, load1V, max2V, min2V, nilchkV, unV, boolEq, isNilV, fadV, extV, slenV, ne_eq, not_true_eq_false, if_false, if_true, ite_true, ite_false, Bool.false_eq_true, Bool.true_eq_false, beq_true, beq_false, beq_self_eq_true, Bool.not_true, Bool.not_false, reduceCtorEq, List.getElem?_toArray, List.getElem?_cons_zero, List.getElem?_cons_succ]
  refine Test.split (fun hgt => ?_) (fun hgt => ?_)
  · have hr : 0 < r := by simpa using hgt
    have hF := hf j (by omega)
    have hps := powF_succ k n j [t0 k t]
    generalize powF k n j [t0 k t] = L at hv6 hF hps
    refine s_skip1 ?_
    simp +decide only [p_seq_normal, p_seq_ret, p_seq_exit, p_block_normal, p_block_ret, p_block_exit, p_fin_ret, p_fin_normal, reduceIte, Nat.reduceEqDiff, resV, resOne, resL, gv, Option.some.injEq, exists_eq_left', Option.bind_some, Option.map_some, List.getD_cons_zero, List.getD_cons_succ]
    refine s_block ?_
    refine s_reg ?_
    simp only [o_cont, o_callT, callV_fn, o_pure, o_eff, o_callF, o_callN, o_guard, gk_tt, gk_ff, gk_tf, gk_ft, gk_u, t_op, t_alt, t_nil, o_nil, POp.ev, Opd.ev, EOp.ev, env0, gu, gv, setD, resV, List.set, List.map, List.map_nil, List.map_cons, Option.map_none, Option.map_some, Option.some.injEq, exists_eq_left', pickV, binV, convV, load1V, max2V, min2V, nilchkV, unV, boolEq, isNilV, fadV, extV, slenV, ne_eq, not_true_eq_false, if_false, if_true, ite_true, ite_false, Bool.false_eq_true, Bool.true_eq_false, beq_true, beq_false, beq_self_eq_true, Bool.not_true, Bool.not_false, reduceCtorEq, List.getElem?_toArray, List.getElem?_cons_zero, List.getElem?_cons_succ]
    refine s_assoc (s_reg ?_)
    simp only [o_cont, o_callT, callV_fn, o_pure, o_eff, o_callF, o_callN, o_guard, gk_tt, gk_ff, gk_tf, gk_ft, gk_u, t_op, t_alt, t_nil, o_nil, POp.ev, Opd.ev, EOp.ev, env0, gu, gv, setD, resV, List.set, List.map, List.map_nil, List.map_cons, Option.map_none, Option.map_some, Option.some.injEq, exists_eq_left', pickV, binV, convV, load1V, max2V, min2V, nilchkV, unV, boolEq, isNilV, fadV, extV, slenV, ne_eq, not_true_eq_false, if_false, if_true, ite_true, ite_false, Bool.false_eq_true, Bool.true_eq_false, beq_true, beq_false, beq_self_eq_true, Bool.not_true, Bool.not_false, reduceCtorEq, List.getElem?_toArray, List.getElem?_cons_zero, List.getElem?_cons_succ, hv6.lenV]
    refine s_cut1 (fun e' H' => ∃ (v7 x8 x9 x12 : Value), SlT H' v7 (stepF k n L) ∧ Ext H H' ∧ e' = [tv t, .int .i64 k, .int .i64 n, .int .i64 r, .pointer (some ⟨p, 0, none⟩), .slice none 0 0, v6, v7, x8, x9, v6, .int .i64 L.length, x12]) ?_ ?_
    · refine s_block1 ?_
      refine s_loop1 (fun m e' H' => ∃ (i : Nat) (v7 x8 x9 : Value), i + m = L.length ∧ SlT H' v7 (putAll [] (pairs k n (L.take i))) ∧ Ext H4 H' ∧ e' = [tv t, .int .i64 k, .int .i64 n, .int .i64 r, .pointer (some ⟨p, 0, none⟩), .slice none 0 0, v6, v7, x8, x9, v6, .int .i64 L.length, .int .i64 i]) L.length ⟨0, _, _, _, by omega, Sl.nil _ _, Ext.refl _, rfl⟩ ?_
      rintro m e' H5 ⟨i, v7, x8', x9', him, hv7, hx5, rfl⟩
      have hnx5 := hx5.next
      refine s_test ?_
      simp only [o_cont, o_callT, callV_fn, o_pure, o_eff, o_callF, o_callN, o_guard, gk_tt, gk_ff, gk_tf, gk_ft, gk_u, t_op, t_alt, t_nil, o_nil, POp.ev, Opd.ev, EOp.ev, env0, gu, gv, setD, resV, List.set, List.map, List.map_nil, List.map_cons, Option.map_none, Option.map_some, Option.some.injEq, exists_eq_left', pickV, binV, convV, load1V, max2V, min2V, nilchkV, unV, boolEq, isNilV, fadV, extV, slenV, ne_eq, not_true_eq_false, if_false, if_true, ite_true, ite_false, Bool.false_eq_true, Bool.true_eq_false, beq_true, beq_false, beq_self_eq_true, Bool.not_true, Bool.not_false, reduceCtorEq, List.getElem?_toArray, List.getElem?_cons_zero, List.getElem?_cons_succ]
      refine Test.split (fun hlt => ?_) (fun hlt => ?_)
      · have hlt' : i < L.length := by simpa using hlt
        obtain ⟨b1, o1, h1, a1⟩ := (hv6.ext hx5).at hlt'
        have hE := hF.ex _ (List.getElem_mem hlt')
        refine s_skip1 ?_
        simp +decide only [p_seq_normal, p_seq_ret, p_seq_exit, p_block_normal, p_block_ret, p_block_exit, p_fin_ret, p_fin_normal, reduceIte, Nat.reduceEqDiff, resV, resOne, resL, gv, Option.some.injEq, exists_eq_left', Option.bind_some, Option.map_some, List.getD_cons_zero, List.getD_cons_succ]
        refine s_block ?_
        refine s_reg ?_
        simp only [o_cont, o_callT, callV_fn, o_pure, o_eff, o_callF, o_callN, o_guard, gk_tt, gk_ff, gk_tf, gk_ft, gk_u, t_op, t_alt, t_nil, o_nil, POp.ev, Opd.ev, EOp.ev, env0, gu, gv, setD, resV, List.set, List.map, List.map_nil, List.map_cons, Option.map_none, Option.map_some, Option.some.injEq, exists_eq_left', pickV, binV, convV, load1V, max2V, min2V, nilchkV, unV, boolEq, isNilV, fadV, extV, slenV, ne_eq, not_true_eq_false, if_false, if_true, ite_true, ite_false, Bool.false_eq_true, Bool.true_eq_false, beq_true, beq_false, beq_self_eq_true, Bool.not_true, Bool.not_false, reduceCtorEq, List.getElem?_toArray, List.getElem?_cons_zero, List.getElem?_cons_succ, h1, a1.all, store4_new (lim := lim) (H := H5) (by omega)]
        have hB := BoxT.mk' H5 L[i]
        generalize H5.alloc (tc L[i]) = H6 at hB ⊢
        generalize H5.next = q at hB hnx5 ⊢
        have hge := hB.ge
        have hlt6 := hB.lt
        have hpw : 0 ≤ pw L[i] k ∧ pw L[i] k ≤ 8 := by
          unfold E at hE
          unfold pw
          split
          · omega
          · split <;> omega
        have wp : IntKind.i64.wrap (pw L[i] k + 1) = pw L[i] k + 1 := by rw [IntKind.wrap_i64]; omega
        refine s_regT_cut (fun e' H' => ∃ q9, BoxT H6 H' q9 (upT k L[i]) ∧ e' = [tv t, .int .i64 k, .int .i64 n, .int .i64 r, .pointer (some ⟨p, 0, none⟩), .slice none 0 0, v6, v7, .pointer (some ⟨q, 0, none⟩), .pointer (some ⟨q9, 0, none⟩), v6, .int .i64 L.length, .int .i64 i]) ?_ ?_
        · simp only [o_cont, o_callT, callV_fn, o_pure, o_eff, o_callF, o_callN, o_guard, gk_tt, gk_ff, gk_tf, gk_ft, gk_u, t_op, t_alt, t_nil, o_nil, POp.ev, Opd.ev, EOp.ev, env0, gu, gv, setD, resV, List.set, List.map, List.map_nil, List.map_cons, Option.map_none, Option.map_some, Option.some.injEq, exists_eq_left', pickV, binV, convV, load1V, max2V, min2V, nilchkV, unV, boolEq, isNilV, fadV, extV, slenV, ne_eq, not_true_eq_false, if_false, if_true, ite_true, ite_false, Bool.false_eq_true, Bool.true_eq_false, beq_true, beq_false, beq_self_eq_true, Bool.not_true, Bool.not_false, reduceCtorEq, List.getElem?_toArray, List.getElem?_cons_zero, List.getElem?_cons_succ, hB.all]
          refine ⟨?_, ?_⟩
          · refine (poPower_ok H6.next _ _ _).mono ?_
            rintro _ H7 ⟨rfl, hx7⟩
            have hnx7 := hx7.next
            simp only [o_cont, o_callT, callV_fn, o_pure, o_eff, o_callF, o_callN, o_guard, gk_tt, gk_ff, gk_tf, gk_ft, gk_u, t_op, t_alt, t_nil, o_nil, POp.ev, Opd.ev, EOp.ev, env0, gu, gv, setD, resV, List.set, List.map, List.map_nil, List.map_cons, Option.map_none, Option.map_some, Option.some.injEq, exists_eq_left', pickV, binV, convV, load1V, max2V, min2V, nilchkV, unV, boolEq, isNilV, fadV, extV, slenV, ne_eq, not_true_eq_false, if_false, if_true, ite_true, ite_false, Bool.false_eq_true, Bool.true_eq_false, beq_true, beq_false, beq_self_eq_true, Bool.not_true, Bool.not_false, reduceCtorEq, List.getElem?_toArray, List.getElem?_cons_zero, List.getElem?_cons_succ, wp]
            refine ⟨?_, ?_⟩
            · refine (poWith_ok lim _ _ _ _ (by omega)).mono ?_
              rintro _ H8 ⟨rfl, hx8⟩
              have hnx8 := hx8.next
              simp only [o_cont, o_callT, callV_fn, o_pure, o_eff, o_callF, o_callN, o_guard, gk_tt, gk_ff, gk_tf, gk_ft, gk_u, t_op, t_alt, t_nil, o_nil, POp.ev, Opd.ev, EOp.ev, env0, gu, gv, setD, resV, List.set, List.map, List.map_nil, List.map_cons, Option.map_none, Option.map_some, Option.some.injEq, exists_eq_left', pickV, binV, convV, load1V, max2V, min2V, nilchkV, unV, boolEq, isNilV, fadV, extV, slenV, ne_eq, not_true_eq_false, if_false, if_true, ite_true, ite_false, Bool.false_eq_true, Bool.true_eq_false, beq_true, beq_false, beq_self_eq_true, Bool.not_true, Bool.not_false, reduceCtorEq, List.getElem?_toArray, List.getElem?_cons_zero, List.getElem?_cons_succ, store4_new (lim := lim) (H := H8) (by omega)]
              exact ⟨H8.next, (BoxT.mk' H8 (upT k L[i])).low (hx7.trans hx8), rfl⟩
            · have hz := Ext.alloc H7 [.int .i64 0, .int .i64 0, .int .i64 0, .int .i64 0]
              have hzb : (H7.alloc [.int .i64 0, .int .i64 0, .int .i64 0, .int .i64 0]).blk H7.next = some [.int .i64 0, .int .i64 0, .int .i64 0, .int .i64 0] := alloc_new _ _
              have hzn : (H7.alloc [.int .i64 0, .int .i64 0, .int .i64 0, .int .i64 0]).next = H7.next + 1 := rfl
              generalize H7.alloc [.int .i64 0, .int .i64 0, .int .i64 0, .int .i64 0] = H7' at hz hzb hzn ⊢
              refine (poWith_ok lim _ _ _ _ (by omega)).mono ?_
              rintro _ H8 ⟨rfl, hx8⟩
              have hnx8 := hx8.next
              obtain ⟨st, hb⟩ := box_store (lim := lim) (Hb := H6) (q := H7.next) (upT k L[i]) ((hx7.trans hz).trans hx8) (by omega) (by omega) (by rw [hx8.blk _ (by omega)]; exact hzb) (by omega)
              unfold upT at st
              simp only [o_cont, o_callT, callV_fn, o_pure, o_eff, o_callF, o_callN, o_guard, gk_tt, gk_ff, gk_tf, gk_ft, gk_u, t_op, t_alt, t_nil, o_nil, POp.ev, Opd.ev, EOp.ev, env0, gu, gv, setD, resV, List.set, List.map, List.map_nil, List.map_cons, Option.map_none, Option.map_some, Option.some.injEq, exists_eq_left', pickV, binV, convV, load1V, max2V, min2V, nilchkV, unV, boolEq, isNilV, fadV, extV, slenV, ne_eq, not_true_eq_false, if_false, if_true, ite_true, ite_false, Bool.false_eq_true, Bool.true_eq_false, beq_true, beq_false, beq_self_eq_true, Bool.not_true, Bool.not_false, reduceCtorEq, List.getElem?_toArray, List.getElem?_cons_zero, List.getElem?_cons_succ, st]
              exact ⟨H7.next, hb, rfl⟩
          · have hz := Ext.alloc H6 [.int .i64 0, .int .i64 0, .int .i64 0, .int .i64 0]
            have hzb : (H6.alloc [.int .i64 0, .int .i64 0, .int .i64 0, .int .i64 0]).blk H6.next = some [.int .i64 0, .int .i64 0, .int .i64 0, .int .i64 0] := alloc_new _ _
            have hzn : (H6.alloc [.int .i64 0, .int .i64 0, .int .i64 0, .int .i64 0]).next = H6.next + 1 := rfl
            generalize H6.alloc [.int .i64 0, .int .i64 0, .int .i64 0, .int .i64 0] = H6' at hz hzb hzn ⊢
            refine (poPower_ok H6'.next _ _ _).mono ?_
            rintro _ H7 ⟨rfl, hx7⟩
            have hnx7 := hx7.next
            simp only [o_cont, o_callT, callV_fn, o_pure, o_eff, o_callF, o_callN, o_guard, gk_tt, gk_ff, gk_tf, gk_ft, gk_u, t_op, t_alt, t_nil, o_nil, POp.ev, Opd.ev, EOp.ev, env0, gu, gv, setD, resV, List.set, List.map, List.map_nil, List.map_cons, Option.map_none, Option.map_some, Option.some.injEq, exists_eq_left', pickV, binV, convV, load1V, max2V, min2V, nilchkV, unV, boolEq, isNilV, fadV, extV, slenV, ne_eq, not_true_eq_false, if_false, if_true, ite_true, ite_false, Bool.false_eq_true, Bool.true_eq_false, beq_true, beq_false, beq_self_eq_true, Bool.not_true, Bool.not_false, reduceCtorEq, List.getElem?_toArray, List.getElem?_cons_zero, List.getElem?_cons_succ, wp]
            refine (poWith_ok lim _ _ _ _ (by omega)).mono ?_
            rintro _ H8 ⟨rfl, hx8⟩
            have hnx8 := hx8.next
            obtain ⟨st, hb⟩ := box_store (lim := lim) (Hb := H6) (q := H6.next) (upT k L[i]) ((hz.trans hx7).trans hx8) (by omega) (by omega) (by rw [hx8.blk _ (by omega), hx7.blk _ (by omega)]; exact hzb) (by omega)
            unfold upT at st
            simp only [o_cont, o_callT, callV_fn, o_pure, o_eff, o_callF, o_callN, o_guard, gk_tt, gk_ff, gk_tf, gk_ft, gk_u, t_op, t_alt, t_nil, o_nil, POp.ev, Opd.ev, EOp.ev, env0, gu, gv, setD, resV, List.set, List.map, List.map_nil, List.map_cons, Option.map_none, Option.map_some, Option.some.injEq, exists_eq_left', pickV, binV, convV, load1V, max2V, min2V, nilchkV, unV, boolEq, isNilV, fadV, extV, slenV, ne_eq, not_true_eq_false, if_false, if_true, ite_true, ite_false, Bool.false_eq_true, Bool.true_eq_false, beq_true, beq_false, beq_self_eq_true, Bool.not_true, Bool.not_false, reduceCtorEq, List.getElem?_toArray, List.getElem?_cons_zero, List.getElem?_cons_succ, st]
            exact ⟨H6.next, hb, rfl⟩
        rintro e' H8 ⟨q9, hB9, rfl⟩
        have hge9 := hB9.ge
        have hlt9 := hB9.lt
        have hB8 := hB.mono hB9.ext
        obtain ⟨cs4, t4, hB5⟩ := hB8.put0 (lim := lim) (by omega) (W (L[i].c * -n))
        refine s_reg ?_
        simp only [o_cont, o_callT, callV_fn, o_pure, o_eff, o_callF, o_callN, o_guard, gk_tt, gk_ff, gk_tf, gk_ft, gk_u, t_op, t_alt, t_nil, o_nil, POp.ev, Opd.ev, EOp.ev, env0, gu, gv, setD, resV, List.set, List.map, List.map_nil, List.map_cons, Option.map_none, Option.map_some, Option.some.injEq, exists_eq_left', pickV, binV, convV, load1V, max2V, min2V, nilchkV, unV, boolEq, isNilV, fadV, extV, slenV, ne_eq, not_true_eq_false, if_false, if_true, ite_true, ite_false, Bool.false_eq_true, Bool.true_eq_false, beq_true, beq_false, beq_self_eq_true, Bool.not_true, Bool.not_false, reduceCtorEq, List.getElem?_toArray, List.getElem?_cons_zero, List.getElem?_cons_succ, Nat.add_zero, Nat.zero_add, hB8.c0, wn, t4]
        have hB9' : (H8.put q cs4).blk q9 = some (tc (upT k L[i])) := by rw [put_ne _ _ (by omega)]; exact hB9.blk
        generalize H8.put q cs4 = H9 at hB5 hB9' ⊢
        clear t4 hB8 cs4 hB
        have hx9 := hB5.ext
        have hlt99 := hB5.lt
        have hall5 : loadNV H9 4 (.pointer (some ⟨q, 0, none⟩)) = some (tv (sc (-n) L[i])) := hB5.all
        have hall9 : loadNV H9 4 (.pointer (some ⟨q9, 0, none⟩)) = some (tv (upT k L[i])) := load4 hB9'
        have hLi : ∀ y ∈ putAll [] (pairs k n (L.take i)), E 9 y := by
          intro y hy
          rcases mem_putAll hy with hy | ⟨u, hu, ho⟩
          · simp at hy
          · exact (pairs_E (fun t ht => hF.ex t (List.mem_of_mem_take ht)) u hu).ord ho
        have hlen : (putAll [] (pairs k n (L.take i))).length ≤ 100 := by
          have h1 := putAll_length (pairs k n (L.take i)) []
          rw [pairs_length, List.length_take] at h1
          have := hF.len
          simp at h1
          omega
        refine s_reg1 ?_
        simp only [o_cont, o_callT, callV_fn, o_pure, o_eff, o_callF, o_callN, o_guard, gk_tt, gk_ff, gk_tf, gk_ft, gk_u, t_op, t_alt, t_nil, o_nil, POp.ev, Opd.ev, EOp.ev, env0, gu, gv, setD, resV, List.set, List.map, List.map_nil, List.map_cons, Option.map_none, Option.map_some, Option.some.injEq, exists_eq_left', pickV, binV, convV, load1V, max2V, min2V, nilchkV, unV, boolEq, isNilV, fadV, extV, slenV, ne_eq, not_true_eq_false, if_false, if_true, ite_true, ite_false, Bool.false_eq_true, Bool.true_eq_false, beq_true, beq_false, beq_self_eq_true, Bool.not_true, Bool.not_false, reduceCtorEq, List.getElem?_toArray, List.getElem?_cons_zero, List.getElem?_cons_succ, hall5, hall9]
        refine (putG_ok H9.next v7 _ (upT k L[i]) _ (Nat.le_refl _) (hv7.ext hx9) (by omega) (fun x hx => (hLi x hx).exB (by omega)) ((upT_E hE).exB (by omega))).mono ?_
        rintro v71 H10 ⟨c1, g1, g2, g3, g4⟩
        simp only [o_cont, o_callT, callV_fn, o_pure, o_eff, o_callF, o_callN, o_guard, gk_tt, gk_ff, gk_tf, gk_ft, gk_u, t_op, t_alt, t_nil, o_nil, POp.ev, Opd.ev, EOp.ev, env0, gu, gv, setD, resV, List.set, List.map, List.map_nil, List.map_cons, Option.map_none, Option.map_some, Option.some.injEq, exists_eq_left', pickV, binV, convV, load1V, max2V, min2V, nilchkV, unV, boolEq, isNilV, fadV, extV, slenV, ne_eq, not_true_eq_false, if_false, if_true, ite_true, ite_false, Bool.false_eq_true, Bool.true_eq_false, beq_true, beq_false, beq_self_eq_true, Bool.not_true, Bool.not_false, reduceCtorEq, List.getElem?_toArray, List.getElem?_cons_zero, List.getElem?_cons_succ]
        have hnx10 := g4.next
        have hlen2 := putF_length (upT k L[i]) (putAll [] (pairs k n (L.take i)))
        refine (putG_ok lim v71 _ (sc (-n) L[i]) _ (by omega) (Vec.sl g3) (by omega) (fun x hx => ?_) ((sc_E hE).exB (by omega))).mono ?_
        · rcases mem_putF hx with hx | hx
          · exact (hLi x hx).exB (by omega)
          · exact ((upT_E hE).ord hx).exB (by omega)
        rintro v72 H11 ⟨c2, k1, k2, k3, k4⟩
        simp only [o_cont, o_callT, callV_fn, o_pure, o_eff, o_callF, o_callN, o_guard, gk_tt, gk_ff, gk_tf, gk_ft, gk_u, t_op, t_alt, t_nil, o_nil, POp.ev, Opd.ev, EOp.ev, env0, gu, gv, setD, resV, List.set, List.map, List.map_nil, List.map_cons, Option.map_none, Option.map_some, Option.some.injEq, exists_eq_left', pickV, binV, convV, load1V, max2V, min2V, nilchkV, unV, boolEq, isNilV, fadV, extV, slenV, ne_eq, not_true_eq_false, if_false, if_true, ite_true, ite_false, Bool.false_eq_true, Bool.true_eq_false, beq_true, beq_false, beq_self_eq_true, Bool.not_true, Bool.not_false, reduceCtorEq, List.getElem?_toArray, List.getElem?_cons_zero, List.getElem?_cons_succ]
        simp +decide only [p_seq_normal, p_seq_ret, p_seq_exit, p_block_normal, p_block_ret, p_block_exit, p_fin_ret, p_fin_normal, reduceIte, Nat.reduceEqDiff, resV, resOne, resL, gv, Option.some.injEq, exists_eq_left', Option.bind_some, Option.map_some, List.getD_cons_zero, List.getD_cons_succ]
        refine s_reg1 ?_
        simp only [o_cont, o_callT, callV_fn, o_pure, o_eff, o_callF, o_callN, o_guard, gk_tt, gk_ff, gk_tf, gk_ft, gk_u, t_op, t_alt, t_nil, o_nil, POp.ev, Opd.ev, EOp.ev, env0, gu, gv, setD, resV, List.set, List.map, List.map_nil, List.map_cons, Option.map_none, Option.map_some, Option.some.injEq, exists_eq_left', pickV, binV, convV, load1V, max2V, min2V, nilchkV, unV, boolEq, isNilV, fadV, extV, slenV, ne_eq, not_true_eq_false, if_false, if_true, ite_true, ite_false, Bool.false_eq_true, Bool.true_eq_false, beq_true, beq_false, beq_self_eq_true, Bool.not_true, Bool.not_false, reduceCtorEq, List.getElem?_toArray, List.getElem?_cons_zero, List.getElem?_cons_succ, add1 (i := i) (by have := hF.len; omega)]
        simp +decide only [p_seq_normal, p_seq_ret, p_seq_exit, p_block_normal, p_block_ret, p_block_exit, p_fin_ret, p_fin_normal, reduceIte, Nat.reduceEqDiff, resV, resOne, resL, gv, Option.some.injEq, exists_eq_left', Option.bind_some, Option.map_some, List.getD_cons_zero, List.getD_cons_succ]
        refine Round.mk (m - 1) (by omega) ⟨i + 1, v72, _, _, by omega, ?_, ((hx5.trans hx9).trans g4).trans k4, rfl⟩
        rw [pairs_take hlt', putAll_append]
        exact Vec.sl k3
      · have hge : i = L.length := by simp at hlt; omega
        subst hge
        rw [List.take_length] at hv7
        refine s_exit1 ?_
        simp +decide only [p_seq_normal, p_seq_ret, p_seq_exit, p_block_normal, p_block_ret, p_block_exit, p_fin_ret, p_fin_normal, reduceIte, Nat.reduceEqDiff, resV, resOne, resL, gv, Option.some.injEq, exists_eq_left', Option.bind_some, Option.map_some, List.getD_cons_zero, List.getD_cons_succ]
        exact ⟨v7, _, _, _, hv7, hx.trans hx5, rfl⟩
    rintro e' H5 ⟨v7, x8', x9', x12', hv7, hx5, rfl⟩
    refine s_reg1 ?_
    simp only [o_cont, o_callT, callV_fn, o_pure, o_eff, o_callF, o_callN, o_guard, gk_tt, gk_ff, gk_tf, gk_ft, gk_u, t_op, t_alt, t_nil, o_nil, POp.ev, Opd.ev, EOp.ev, env0, gu, gv, setD, resV, List.set, List.map, List.map_nil, List.map_cons, Option.map_none, Option.map_some, Option.some.injEq, exists_eq_left', pickV, binV, convV, load1V, max2V, min2V, nilchkV, unV, boolEq, isNilV, fadV, extV, slenV, ne_eq, not_true_eq_false, if_false, if_true, ite_true, ite_false, Bool.false_eq_true, Bool.true_eq_false, beq_true, beq_false, beq_self_eq_true, Bool.not_true, Bool.not_false, reduceCtorEq, List.getElem?_toArray, List.getElem?_cons_zero, List.getElem?_cons_succ]
    simp +decide only [p_seq_normal, p_seq_ret, p_seq_exit, p_block_normal, p_block_ret, p_block_exit, p_fin_ret, p_fin_normal, reduceIte, Nat.reduceEqDiff, resV, resOne, resL, gv, Option.some.injEq, exists_eq_left', Option.bind_some, Option.map_some, List.getD_cons_zero, List.getD_cons_succ]
    refine s_reg1 ?_
    simp only [o_cont, o_callT, callV_fn, o_pure, o_eff, o_callF, o_callN, o_guard, gk_tt, gk_ff, gk_tf, gk_ft, gk_u, t_op, t_alt, t_nil, o_nil, POp.ev, Opd.ev, EOp.ev, env0, gu, gv, setD, resV, List.set, List.map, List.map_nil, List.map_cons, Option.map_none, Option.map_some, Option.some.injEq, exists_eq_left', pickV, binV, convV, load1V, max2V, min2V, nilchkV, unV, boolEq, isNilV, fadV, extV, slenV, ne_eq, not_true_eq_false, if_false, if_true, ite_true, ite_false, Bool.false_eq_true, Bool.true_eq_false, beq_true, beq_false, beq_self_eq_true, Bool.not_true, Bool.not_false, reduceCtorEq, List.getElem?_toArray, List.getElem?_cons_zero, List.getElem?_cons_succ, sub1N (i := r) (by omega) (by omega)]
    simp +decide only [p_seq_normal, p_seq_ret, p_seq_exit, p_block_normal, p_block_ret, p_block_exit, p_fin_ret, p_fin_normal, reduceIte, Nat.reduceEqDiff, resV, resOne, resL, gv, Option.some.injEq, exists_eq_left', Option.bind_some, Option.map_some, List.getD_cons_zero, List.getD_cons_succ]
    exact Round.mk (r - 1) (by omega) ⟨j + 1, v7, _, _, _, _, _, _, by omega, by rw [hps]; exact hv7, hx5, rfl⟩
  · have hr : r = 0 := by simp at hgt; omega
    subst hr
    have hj : j = e := by omega
    subst hj
    refine s_exit1 ?_
    simp +decide only [p_seq_normal, p_seq_ret, p_seq_exit, p_block_normal, p_block_ret, p_block_exit, p_fin_ret, p_fin_normal, reduceIte, Nat.reduceEqDiff, resV, resOne, resL, gv, Option.some.injEq, exists_eq_left', Option.bind_some, Option.map_some, List.getD_cons_zero, List.getD_cons_succ]
    refine s_reg ?_
    simp only [o_cont, o_callT, callV_fn, o_pure, o_eff, o_callF, o_callN, o_guard, gk_tt, gk_ff, gk_tf, gk_ft, gk_u, t_op, t_alt, t_nil, o_nil, POp.ev, Opd.ev, EOp.ev, env0, gu, gv, setD, resV, List.set, List.map, List.map_nil, List.map_cons, Option.map_none, Option.map_some, Option.some.injEq, exists_eq_left', pickV, binV, convV, load1V, max2V, min2V, nilchkV, unV, boolEq, isNilV, fadV, extV, slenV, ne_eq, not_true_eq_false, if_false, if_true, ite_true, ite_false, Bool.false_eq_true, Bool.true_eq_false, beq_true, beq_false, beq_self_eq_true, Bool.not_true, Bool.not_false, reduceCtorEq, List.getElem?_toArray, List.getElem?_cons_zero, List.getElem?_cons_succ]
    refine s_ret1 ?_
    simp +decide only [p_seq_normal, p_seq_ret, p_seq_exit, p_block_normal, p_block_ret, p_block_exit, p_fin_ret, p_fin_normal, reduceIte, Nat.reduceEqDiff, resV, resOne, resL, gv, Option.some.injEq, exists_eq_left', Option.bind_some, Option.map_some, List.getD_cons_zero, List.getD_cons_succ]
    exact ⟨hv6, hx⟩
end Go.Proofs.Ytaimceodhhgnnaa
