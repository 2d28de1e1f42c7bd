/- Systems of polynomials, part 11 of the walk: an unknown replaced by a number times it, both sides; no condition beyond stated lengths. -/
import Derived.Test.YtaimceodhhgnnaaT10
namespace Go.Proofs.Ytaimceodhhgnnaa
open Go.Ab
set_option linter.unusedSimpArgs false
set_option linter.unusedVariables false

/-- a term in which an unknown is replaced by n times it -/
def tr (n u : Int) (t : Tm) : Tm := { t with c := t.c * n ^ (pw t u).toNat }
theorem tr_small {c n : Int} {j : Nat} (hc : -1000 ≤ c ∧ c ≤ 1000) (hn : n = 2 ∨ n = -1) (hj : j ≤ 4) : -16000 ≤ c * n ^ j ∧ c * n ^ j ≤ 16000 := by
  rcases hn with rfl | rfl
  · match j, hj with
    | 0, _ => simp; omega
    | 1, _ => simp; omega
    | 2, _ => simp; omega
    | 3, _ => simp; omega
    | 4, _ => simp; omega
  · match j, hj with
    | 0, _ => simp; omega
    | 1, _ => simp; omega
    | 2, _ => simp; omega
    | 3, _ => simp; omega
    | 4, _ => simp; omega
theorem pow_ne {n : Int} (h : n ≠ 0) : ∀ j : Nat, n ^ j ≠ 0
  | 0 => by simp
  | j + 1 => by rw [Int.pow_succ]; exact Int.mul_ne_zero (pow_ne h j) h
theorem tr_ne {c n : Int} {j : Nat} (hc : c ≠ 0) (hn : n = 2 ∨ n = -1) : c * n ^ j ≠ 0 := Int.mul_ne_zero hc (pow_ne (by omega) j)
theorem pw_b {t : Tm} (h : okTm t = true) (u : Int) : 0 ≤ pw t u ∧ pw t u ≤ 4 := by
  have := okTm_b h
  unfold pw
  split
  · omega
  · split <;> omega

theorem BoxT.put0 {lim : Nat} {Hb H : AHeap} {q : Nat} {t : Tm} (h : BoxT Hb H q t) (hl : lim ≤ q) (c : Int) : ∃ cs, storeH lim H 1 (.pointer (some ⟨q, 0, none⟩)) (.int .i64 c) = some (undef, H.put q cs) ∧ BoxT Hb (H.put q cs) q { t with c := c } :=
  ⟨_, store_int .i64 c hl h.blk (by simp [tc]), Chg.ext h.ext (Chg.put _ _ _) h.ge, h.ge, h.lt, put_same _ _ _⟩

def timesR (n u : Int) (ss : List (List Tm)) : Option (List (List Tm)) := if ss.all (fun p => goodP (p.map (tr n u))) then some (ss.map (·.map (tr n u))) else none

theorem tfTimes_ok (lim : Nat) (s : Value) (ss : List (List Tm)) (u n : Int) (H : AHeap) (hl : lim ≤ H.next) (hs : SlSS H s ss) (hn : ss.length ≤ 1000000) (hn2 : ∀ p ∈ ss, p.length ≤ 20) (hok : ∀ p ∈ ss, ∀ t ∈ p, okTm t = true) (hnn : n = 2 ∨ n = -1) :
    ACalls Try.prog lim n_spec_tfTimes [s, .int .i64 u, .int .i64 n] H fun v H' => ResSS H' H.next v (timesR n u ss) ∧ Ext H H' := by
  refine is_spec_tfTimes.go rfl ?_
  unfold c_spec_tfTimes
  refine s_reg ?_
  simp only [o_cont, o_callT, callV_fn, o_pure, o_eff, o_callF, o_callN, o_guard, gk_tt, gk_ff, gk_tf, gk_ft, gk_u, t_op, t_alt, t_nil, o_nil, POp.ev, Opd.ev, EOp.ev, env0, gu, gv, setD, resV, List.set, List.map, List.map_nil, List.map_cons, Option.map_none, Option.map_some, Option.some.injEq, exists_eq_left', pickV, binV, convV, load1V, max2V, min2V, nilchkV, unV, boolEq, isNilV, fadV, extV, slenV, ne_eq, not_true_eq_false, if_false, if_true, ite_true, ite_false, Bool.false_eq_true, Bool.true_eq_false, beq_true, beq_false, beq_self_eq_true, Bool.not_true, Bool.not_false, reduceCtorEq, List.getElem?_toArray, List.getElem?_cons_zero, List.getElem?_cons_succ]
  refine s_reg ?_
  simp only [o_cont, o_callT, callV_fn, o_pure, o_eff, o_callF, o_callN, o_guard, gk_tt, gk_ff, gk_tf, gk_ft, gk_u, t_op, t_alt, t_nil, o_nil, POp.ev, Opd.ev, EOp.ev, env0, gu, gv, setD, resV, List.set, List.map, List.map_nil, List.map_cons, Option.map_none, Option.map_some, Option.some.injEq, exists_eq_left', pickV, binV, convV, load1V, max2V, min2V, nilchkV, unV, boolEq, isNilV, fadV, extV, slenV, ne_eq, not_true_eq_false, if_false, if_true, ite_true, ite_false, Bool.false_eq_true, Bool.true_eq_false, beq_true, beq_false, beq_self_eq_true, Bool.not_true, Bool.not_false, reduceCtorEq, List.getElem?_toArray, List.getElem?_cons_zero, List.getElem?_cons_succ]
  refine s_assoc (s_reg ?_)
  simp only [o_cont, o_callT, callV_fn, o_pure, o_eff, o_callF, o_callN, o_guard, gk_tt, gk_ff, gk_tf, gk_ft, gk_u, t_op, t_alt, t_nil, o_nil, POp.ev, Opd.ev, EOp.ev, env0, gu, gv, setD, resV, List.set, List.map, List.map_nil, List.map_cons, Option.map_none, Option.map_some, Option.some.injEq, exists_eq_left', pickV, binV, convV, load1V, max2V, min2V, nilchkV, unV, boolEq, isNilV, fadV, extV, slenV, ne_eq, not_true_eq_false, if_false, if_true, ite_true, ite_false, Bool.false_eq_true, Bool.true_eq_false, beq_true, beq_false, beq_self_eq_true, Bool.not_true, Bool.not_false, reduceCtorEq, List.getElem?_toArray, List.getElem?_cons_zero, List.getElem?_cons_succ, hs.lenV]
  refine s_block ?_
  refine s_loop1 (fun j e' H' => ∃ (i b : Nat) (vs : List Value) (bs : List Nat) (v x6 x7 x8 x9 x13 x14 x15 : Value), i + j = ss.length ∧ ((ss.take i).all fun p => goodP (p.map (tr n u))) = true ∧ GrowX H' H.next b vs bs v ((ss.take i).map (·.map (tr n u))) ∧ Ext H H' ∧
    e' = [s, .int .i64 u, .int .i64 n, .slice none 0 0, .bool false, v, x6, x7, x8, x9, s, .int .i64 ss.length, .int .i64 i, x13, x14, x15]) ss.length ⟨0, H.next, [], [], _, _, _, _, _, _, _, _, by omega, by simp, GrowX.nil' _, Ext.refl _, rfl⟩ ?_
  rintro j e' H' ⟨i, b, vs, bs, v, x6, x7, x8, x9, x13, x14, x15, hij, hall, hG, hx, rfl⟩
  have hnx := hx.next
  refine s_test ?_
  simp only [o_cont, o_callT, callV_fn, o_pure, o_eff, o_callF, o_callN, o_guard, gk_tt, gk_ff, gk_tf, gk_ft, gk_u, t_op, t_alt, t_nil, o_nil, POp.ev, Opd.ev, EOp.ev, env0, gu, gv, setD, resV, List.set, List.map, List.map_nil, List.map_cons, Option.map_none, Option.map_some, Option.some.injEq, exists_eq_left', pickV, binV, convV, load1V, max2V, min2V, nilchkV, unV, boolEq, isNilV, fadV, extV, slenV, ne_eq, not_true_eq_false, if_false, if_true, ite_true, ite_false, Bool.false_eq_true, Bool.true_eq_false, beq_true, beq_false, beq_self_eq_true, Bool.not_true, Bool.not_false, reduceCtorEq, List.getElem?_toArray, List.getElem?_cons_zero, List.getElem?_cons_succ]
  refine Test.split (fun hlt => ?_) (fun hlt => ?_)
  · have hlt' : i < ss.length := by simpa using hlt
    obtain ⟨b1, o1, s1, h1, h2, h3⟩ := (hs.ext hx).at hlt'
    have hpl := hn2 _ (List.getElem_mem hlt')
    have hpok := hok _ (List.getElem_mem hlt')
    refine s_skip1 ?_
    simp +decide only [p_seq_normal, p_seq_ret, p_seq_exit, p_block_normal, p_block_ret, p_block_exit, p_fin_ret, p_fin_normal, reduceIte, Nat.reduceEqDiff, resV, resOne, resL, gv, Option.some.injEq, exists_eq_left', Option.bind_some, Option.map_some, List.getD_cons_zero, List.getD_cons_succ]
    refine s_block ?_
    refine s_reg ?_
    simp only [o_cont, o_callT, callV_fn, o_pure, o_eff, o_callF, o_callN, o_guard, gk_tt, gk_ff, gk_tf, gk_ft, gk_u, t_op, t_alt, t_nil, o_nil, POp.ev, Opd.ev, EOp.ev, env0, gu, gv, setD, resV, List.set, List.map, List.map_nil, List.map_cons, Option.map_none, Option.map_some, Option.some.injEq, exists_eq_left', pickV, binV, convV, load1V, max2V, min2V, nilchkV, unV, boolEq, isNilV, fadV, extV, slenV, ne_eq, not_true_eq_false, if_false, if_true, ite_true, ite_false, Bool.false_eq_true, Bool.true_eq_false, beq_true, beq_false, beq_self_eq_true, Bool.not_true, Bool.not_false, reduceCtorEq, List.getElem?_toArray, List.getElem?_cons_zero, List.getElem?_cons_succ, h1, h2]
    refine s_reg ?_
    simp only [o_cont, o_callT, callV_fn, o_pure, o_eff, o_callF, o_callN, o_guard, gk_tt, gk_ff, gk_tf, gk_ft, gk_u, t_op, t_alt, t_nil, o_nil, POp.ev, Opd.ev, EOp.ev, env0, gu, gv, setD, resV, List.set, List.map, List.map_nil, List.map_cons, Option.map_none, Option.map_some, Option.some.injEq, exists_eq_left', pickV, binV, convV, load1V, max2V, min2V, nilchkV, unV, boolEq, isNilV, fadV, extV, slenV, ne_eq, not_true_eq_false, if_false, if_true, ite_true, ite_false, Bool.false_eq_true, Bool.true_eq_false, beq_true, beq_false, beq_self_eq_true, Bool.not_true, Bool.not_false, reduceCtorEq, List.getElem?_toArray, List.getElem?_cons_zero, List.getElem?_cons_succ]
    refine s_cut1 (fun e'' H'' => ∃ (c : Nat) (w x8 x9 x13 x14 x15 : Value), VecT H'' c w (ss[i].map (tr n u)) ∧ H'.next ≤ c ∧ c ≤ H''.next ∧ Ext H' H'' ∧ e'' = [s, .int .i64 u, .int .i64 n, .slice none 0 0, .bool false, v, s1, w, x8, x9, s, .int .i64 ss.length, .int .i64 i, x13, x14, x15]) ?_ ?_
    · refine s_reg ?_
      simp only [o_cont, o_callT, callV_fn, o_pure, o_eff, o_callF, o_callN, o_guard, gk_tt, gk_ff, gk_tf, gk_ft, gk_u, t_op, t_alt, t_nil, o_nil, POp.ev, Opd.ev, EOp.ev, env0, gu, gv, setD, resV, List.set, List.map, List.map_nil, List.map_cons, Option.map_none, Option.map_some, Option.some.injEq, exists_eq_left', pickV, binV, convV, load1V, max2V, min2V, nilchkV, unV, boolEq, isNilV, fadV, extV, slenV, ne_eq, not_true_eq_false, if_false, if_true, ite_true, ite_false, Bool.false_eq_true, Bool.true_eq_false, beq_true, beq_false, beq_self_eq_true, Bool.not_true, Bool.not_false, reduceCtorEq, List.getElem?_toArray, List.getElem?_cons_zero, List.getElem?_cons_succ, h3.lenV]
      refine s_block1 ?_
      refine s_loop1 (fun j2 e' H2 => ∃ (k c : Nat) (w x8 x9 : Value), k + j2 = ss[i].length ∧ VecT H2 c w ((ss[i].take k).map (tr n u)) ∧ H'.next ≤ c ∧ c ≤ H2.next ∧ Ext H' H2 ∧ e' = [s, .int .i64 u, .int .i64 n, .slice none 0 0, .bool false, v, s1, w, x8, x9, s, .int .i64 ss.length, .int .i64 i, s1, .int .i64 ss[i].length, .int .i64 k]) ss[i].length ⟨0, H'.next, _, _, _, by omega, vecT_nil _ _, Nat.le_refl _, Nat.le_refl _, Ext.refl _, rfl⟩ ?_
      rintro j2 e' H2 ⟨k, c, w, x8, x9, hkj, hv, hc1, hc2, hx2, rfl⟩
      have hnx2 := hx2.next
      refine s_test ?_
      simp only [o_cont, o_callT, callV_fn, o_pure, o_eff, o_callF, o_callN, o_guard, gk_tt, gk_ff, gk_tf, gk_ft, gk_u, t_op, t_alt, t_nil, o_nil, POp.ev, Opd.ev, EOp.ev, env0, gu, gv, setD, resV, List.set, List.map, List.map_nil, List.map_cons, Option.map_none, Option.map_some, Option.some.injEq, exists_eq_left', pickV, binV, convV, load1V, max2V, min2V, nilchkV, unV, boolEq, isNilV, fadV, extV, slenV, ne_eq, not_true_eq_false, if_false, if_true, ite_true, ite_false, Bool.false_eq_true, Bool.true_eq_false, beq_true, beq_false, beq_self_eq_true, Bool.not_true, Bool.not_false, reduceCtorEq, List.getElem?_toArray, List.getElem?_cons_zero, List.getElem?_cons_succ]
      refine Test.split (fun hlt2 => ?_) (fun hlt2 => ?_)
      · have hk : k < ss[i].length := by simpa using hlt2
        obtain ⟨b2, o2, k1, a2⟩ := (h3.ext hx2).at hk
        have hto := hpok _ (List.getElem_mem hk)
        generalize hte : ss[i][k] = t at a2 hto
        have hpb := pw_b hto u
        have htb := okTm_b hto
        obtain ⟨E, hE⟩ : ∃ E : Nat, pw t u = (E : Int) := ⟨(pw t u).toNat, by omega⟩
        refine s_skip1 ?_
        simp +decide only [p_seq_normal, p_seq_ret, p_seq_exit, p_block_normal, p_block_ret, p_block_exit, p_fin_ret, p_fin_normal, reduceIte, Nat.reduceEqDiff, resV, resOne, resL, gv, Option.some.injEq, exists_eq_left', Option.bind_some, Option.map_some, List.getD_cons_zero, List.getD_cons_succ]
        refine s_block ?_
        refine s_reg ?_
        simp only [o_cont, o_callT, callV_fn, o_pure, o_eff, o_callF, o_callN, o_guard, gk_tt, gk_ff, gk_tf, gk_ft, gk_u, t_op, t_alt, t_nil, o_nil, POp.ev, Opd.ev, EOp.ev, env0, gu, gv, setD, resV, List.set, List.map, List.map_nil, List.map_cons, Option.map_none, Option.map_some, Option.some.injEq, exists_eq_left', pickV, binV, convV, load1V, max2V, min2V, nilchkV, unV, boolEq, isNilV, fadV, extV, slenV, ne_eq, not_true_eq_false, if_false, if_true, ite_true, ite_false, Bool.false_eq_true, Bool.true_eq_false, beq_true, beq_false, beq_self_eq_true, Bool.not_true, Bool.not_false, reduceCtorEq, List.getElem?_toArray, List.getElem?_cons_zero, List.getElem?_cons_succ, k1, a2.all, store4_new (lim := lim) (H := H2) (by omega)]
        have hB := BoxT.mk' H2 t
        generalize H2.alloc (tc t) = H3 at hB ⊢
        generalize hqe : H2.next = q at hB ⊢
        refine s_reg ?_
        simp only [o_cont, o_callT, callV_fn, o_pure, o_eff, o_callF, o_callN, o_guard, gk_tt, gk_ff, gk_tf, gk_ft, gk_u, t_op, t_alt, t_nil, o_nil, POp.ev, Opd.ev, EOp.ev, env0, gu, gv, setD, resV, List.set, List.map, List.map_nil, List.map_cons, Option.map_none, Option.map_some, Option.some.injEq, exists_eq_left', pickV, binV, convV, load1V, max2V, min2V, nilchkV, unV, boolEq, isNilV, fadV, extV, slenV, ne_eq, not_true_eq_false, if_false, if_true, ite_true, ite_false, Bool.false_eq_true, Bool.true_eq_false, beq_true, beq_false, beq_self_eq_true, Bool.not_true, Bool.not_false, reduceCtorEq, List.getElem?_toArray, List.getElem?_cons_zero, List.getElem?_cons_succ, hB.all]
        refine (poPower_ok _ _ _ _).mono ?_
        rintro _ H4 ⟨rfl, hx4⟩
        replace hB := hB.mono hx4
        simp only [o_cont, o_callT, callV_fn, o_pure, o_eff, o_callF, o_callN, o_guard, gk_tt, gk_ff, gk_tf, gk_ft, gk_u, t_op, t_alt, t_nil, o_nil, POp.ev, Opd.ev, EOp.ev, env0, gu, gv, setD, resV, List.set, List.map, List.map_nil, List.map_cons, Option.map_none, Option.map_some, Option.some.injEq, exists_eq_left', pickV, binV, convV, load1V, max2V, min2V, nilchkV, unV, boolEq, isNilV, fadV, extV, slenV, ne_eq, not_true_eq_false, if_false, if_true, ite_true, ite_false, Bool.false_eq_true, Bool.true_eq_false, beq_true, beq_false, beq_self_eq_true, Bool.not_true, Bool.not_false, reduceCtorEq, List.getElem?_toArray, List.getElem?_cons_zero, List.getElem?_cons_succ, hE]
        refine s_cut1 (fun e'' H'' => BoxT H2 H'' q (tr n u t) ∧ ∃ x9 : Value, e'' = [s, .int .i64 u, .int .i64 n, .slice none 0 0, .bool false, v, s1, w, .pointer (some ⟨q, 0, none⟩), x9, s, .int .i64 ss.length, .int .i64 i, s1, .int .i64 ss[i].length, .int .i64 k]) ?_ ?_
        · refine s_block1 ?_
          refine s_loop1 (fun j3 e' H5 => ∃ m : Nat, m + j3 = E ∧ BoxT H2 H5 q { t with c := t.c * n ^ m } ∧ e' = [s, .int .i64 u, .int .i64 n, .slice none 0 0, .bool false, v, s1, w, .pointer (some ⟨q, 0, none⟩), .int .i64 ((E - m : Nat) : Int), s, .int .i64 ss.length, .int .i64 i, s1, .int .i64 ss[i].length, .int .i64 k]) E ⟨0, by omega, by simpa using hB, by simp⟩ ?_
          rintro j3 e' H5 ⟨m, hm, hB5, rfl⟩
          refine s_test ?_
          simp only [o_cont, o_callT, callV_fn, o_pure, o_eff, o_callF, o_callN, o_guard, gk_tt, gk_ff, gk_tf, gk_ft, gk_u, t_op, t_alt, t_nil, o_nil, POp.ev, Opd.ev, EOp.ev, env0, gu, gv, setD, resV, List.set, List.map, List.map_nil, List.map_cons, Option.map_none, Option.map_some, Option.some.injEq, exists_eq_left', pickV, binV, convV, load1V, max2V, min2V, nilchkV, unV, boolEq, isNilV, fadV, extV, slenV, ne_eq, not_true_eq_false, if_false, if_true, ite_true, ite_false, Bool.false_eq_true, Bool.true_eq_false, beq_true, beq_false, beq_self_eq_true, Bool.not_true, Bool.not_false, reduceCtorEq, List.getElem?_toArray, List.getElem?_cons_zero, List.getElem?_cons_succ]
          refine Test.split (fun hg => ?_) (fun hg => ?_)
          · have hmE : m < E := by simp at hg; omega
            have hmul : IntKind.i64.wrap (t.c * n ^ m * n) = t.c * n ^ (m + 1) := by
              have e : t.c * n ^ m * n = t.c * n ^ (m + 1) := by rw [Int.pow_succ, Int.mul_assoc]
              rw [e]
              have := tr_small (c := t.c) (j := m + 1) (by omega) hnn (by omega)
              rw [IntKind.wrap_i64]; omega
            have hsub : IntKind.i64.wrap (((E - m : Nat) : Int) - 1) = ((E - (m + 1) : Nat) : Int) := by rw [IntKind.wrap_i64]; omega
            obtain ⟨cs, g1, g2⟩ := hB5.put0 (lim := lim) (by omega) (t.c * n ^ (m + 1))
            refine s_skip1 ?_
            simp +decide only [p_seq_normal, p_seq_ret, p_seq_exit, p_block_normal, p_block_ret, p_block_exit, p_fin_ret, p_fin_normal, reduceIte, Nat.reduceEqDiff, resV, resOne, resL, gv, Option.some.injEq, exists_eq_left', Option.bind_some, Option.map_some, List.getD_cons_zero, List.getD_cons_succ]
            refine s_block ?_
            refine s_reg1 ?_
            simp only [o_cont, o_callT, callV_fn, o_pure, o_eff, o_callF, o_callN, o_guard, gk_tt, gk_ff, gk_tf, gk_ft, gk_u, t_op, t_alt, t_nil, o_nil, POp.ev, Opd.ev, EOp.ev, env0, gu, gv, setD, resV, List.set, List.map, List.map_nil, List.map_cons, Option.map_none, Option.map_some, Option.some.injEq, exists_eq_left', pickV, binV, convV, load1V, max2V, min2V, nilchkV, unV, boolEq, isNilV, fadV, extV, slenV, ne_eq, not_true_eq_false, if_false, if_true, ite_true, ite_false, Bool.false_eq_true, Bool.true_eq_false, beq_true, beq_false, beq_self_eq_true, Bool.not_true, Bool.not_false, reduceCtorEq, List.getElem?_toArray, List.getElem?_cons_zero, List.getElem?_cons_succ, Nat.zero_add, hB5.c0, hmul, g1]
            simp +decide only [p_seq_normal, p_seq_ret, p_seq_exit, p_block_normal, p_block_ret, p_block_exit, p_fin_ret, p_fin_normal, reduceIte, Nat.reduceEqDiff, resV, resOne, resL, gv, Option.some.injEq, exists_eq_left', Option.bind_some, Option.map_some, List.getD_cons_zero, List.getD_cons_succ]
            refine s_reg1 ?_
            simp only [o_cont, o_callT, callV_fn, o_pure, o_eff, o_callF, o_callN, o_guard, gk_tt, gk_ff, gk_tf, gk_ft, gk_u, t_op, t_alt, t_nil, o_nil, POp.ev, Opd.ev, EOp.ev, env0, gu, gv, setD, resV, List.set, List.map, List.map_nil, List.map_cons, Option.map_none, Option.map_some, Option.some.injEq, exists_eq_left', pickV, binV, convV, load1V, max2V, min2V, nilchkV, unV, boolEq, isNilV, fadV, extV, slenV, ne_eq, not_true_eq_false, if_false, if_true, ite_true, ite_false, Bool.false_eq_true, Bool.true_eq_false, beq_true, beq_false, beq_self_eq_true, Bool.not_true, Bool.not_false, reduceCtorEq, List.getElem?_toArray, List.getElem?_cons_zero, List.getElem?_cons_succ, hsub]
            simp +decide only [p_seq_normal, p_seq_ret, p_seq_exit, p_block_normal, p_block_ret, p_block_exit, p_fin_ret, p_fin_normal, reduceIte, Nat.reduceEqDiff, resV, resOne, resL, gv, Option.some.injEq, exists_eq_left', Option.bind_some, Option.map_some, List.getD_cons_zero, List.getD_cons_succ]
            exact Round.mk (j3 - 1) (by omega) ⟨m + 1, by omega, g2, rfl⟩
          · have hmE : m = E := by simp at hg; omega
            subst hmE
            refine s_exit1 ?_
            simp +decide only [p_seq_normal, p_seq_ret, p_seq_exit, p_block_normal, p_block_ret, p_block_exit, p_fin_ret, p_fin_normal, reduceIte, Nat.reduceEqDiff, resV, resOne, resL, gv, Option.some.injEq, exists_eq_left', Option.bind_some, Option.map_some, List.getD_cons_zero, List.getD_cons_succ]
            refine ⟨?_, _, rfl⟩
            unfold tr
            rw [hE, Int.toNat_natCast]
            exact hB5
        rintro e'' H6 ⟨hB6, x9, rfl⟩
        obtain ⟨w', H7, c', g1, g2, g3, g4, g5⟩ := pushT (lim := lim) (VecT.ext hv hB6.ext) (tr n u t) (by omega) (by simp; omega)
        have hn6 := hB6.ext.next
        refine s_reg1 ?_
        simp only [o_cont, o_callT, callV_fn, o_pure, o_eff, o_callF, o_callN, o_guard, gk_tt, gk_ff, gk_tf, gk_ft, gk_u, t_op, t_alt, t_nil, o_nil, POp.ev, Opd.ev, EOp.ev, env0, gu, gv, setD, resV, List.set, List.map, List.map_nil, List.map_cons, Option.map_none, Option.map_some, Option.some.injEq, exists_eq_left', pickV, binV, convV, load1V, max2V, min2V, nilchkV, unV, boolEq, isNilV, fadV, extV, slenV, ne_eq, not_true_eq_false, if_false, if_true, ite_true, ite_false, Bool.false_eq_true, Bool.true_eq_false, beq_true, beq_false, beq_self_eq_true, Bool.not_true, Bool.not_false, reduceCtorEq, List.getElem?_toArray, List.getElem?_cons_zero, List.getElem?_cons_succ, hB6.all, bsliceT, g1]
        simp +decide only [p_seq_normal, p_seq_ret, p_seq_exit, p_block_normal, p_block_ret, p_block_exit, p_fin_ret, p_fin_normal, reduceIte, Nat.reduceEqDiff, resV, resOne, resL, gv, Option.some.injEq, exists_eq_left', Option.bind_some, Option.map_some, List.getD_cons_zero, List.getD_cons_succ]
        refine s_reg1 ?_
        simp only [o_cont, o_callT, callV_fn, o_pure, o_eff, o_callF, o_callN, o_guard, gk_tt, gk_ff, gk_tf, gk_ft, gk_u, t_op, t_alt, t_nil, o_nil, POp.ev, Opd.ev, EOp.ev, env0, gu, gv, setD, resV, List.set, List.map, List.map_nil, List.map_cons, Option.map_none, Option.map_some, Option.some.injEq, exists_eq_left', pickV, binV, convV, load1V, max2V, min2V, nilchkV, unV, boolEq, isNilV, fadV, extV, slenV, ne_eq, not_true_eq_false, if_false, if_true, ite_true, ite_false, Bool.false_eq_true, Bool.true_eq_false, beq_true, beq_false, beq_self_eq_true, Bool.not_true, Bool.not_false, reduceCtorEq, List.getElem?_toArray, List.getElem?_cons_zero, List.getElem?_cons_succ, add1 (i := k) (by omega)]
        simp +decide only [p_seq_normal, p_seq_ret, p_seq_exit, p_block_normal, p_block_ret, p_block_exit, p_fin_ret, p_fin_normal, reduceIte, Nat.reduceEqDiff, resV, resOne, resL, gv, Option.some.injEq, exists_eq_left', Option.bind_some, Option.map_some, List.getD_cons_zero, List.getD_cons_succ]
        refine Round.mk (j2 - 1) (by omega) ⟨k + 1, c', w', _, _, by omega, ?_, by rcases g3 with rfl | g3 <;> omega, by omega, Chg.ext (hx2.trans hB6.ext) g5 hc1, rfl⟩
        rw [List.take_add_one, List.getElem?_eq_getElem hk, hte, List.map_append]
        exact g2
      · have hge : k = ss[i].length := by simp at hlt2; omega
        refine s_exit1 ?_
        simp +decide only [p_seq_normal, p_seq_ret, p_seq_exit, p_block_normal, p_block_ret, p_block_exit, p_fin_ret, p_fin_normal, reduceIte, Nat.reduceEqDiff, resV, resOne, resL, gv, Option.some.injEq, exists_eq_left', Option.bind_some, Option.map_some, List.getD_cons_zero, List.getD_cons_succ]
        rw [hge, List.take_length] at hv
        exact ⟨c, w, _, _, _, _, _, hv, hc1, hc2, hx2, rfl⟩
    rintro e'' H2 ⟨c, w, y8, y9, y13, y14, y15, hv, hc1, hc2, hx2, rfl⟩
    have hnx2 := hx2.next
    refine s_test ?_
    simp only [o_cont, o_callT, callV_fn, o_pure, o_eff, o_callF, o_callN, o_guard, gk_tt, gk_ff, gk_tf, gk_ft, gk_u, t_op, t_alt, t_nil, o_nil, POp.ev, Opd.ev, EOp.ev, env0, gu, gv, setD, resV, List.set, List.map, List.map_nil, List.map_cons, Option.map_none, Option.map_some, Option.some.injEq, exists_eq_left', pickV, binV, convV, load1V, max2V, min2V, nilchkV, unV, boolEq, isNilV, fadV, extV, slenV, ne_eq, not_true_eq_false, if_false, if_true, ite_true, ite_false, Bool.false_eq_true, Bool.true_eq_false, beq_true, beq_false, beq_self_eq_true, Bool.not_true, Bool.not_false, reduceCtorEq, List.getElem?_toArray, List.getElem?_cons_zero, List.getElem?_cons_succ]
    refine (poGood_ok lim _ _ _ (by omega) (Vec.sl hv) (by simp; omega)).mono ?_
    rintro _ H3 ⟨rfl, hx3⟩
    simp only [o_cont, o_callT, callV_fn, o_pure, o_eff, o_callF, o_callN, o_guard, gk_tt, gk_ff, gk_tf, gk_ft, gk_u, t_op, t_alt, t_nil, o_nil, POp.ev, Opd.ev, EOp.ev, env0, gu, gv, setD, resV, List.set, List.map, List.map_nil, List.map_cons, Option.map_none, Option.map_some, Option.some.injEq, exists_eq_left', pickV, binV, convV, load1V, max2V, min2V, nilchkV, unV, boolEq, isNilV, fadV, extV, slenV, ne_eq, not_true_eq_false, if_false, if_true, ite_true, ite_false, Bool.false_eq_true, Bool.true_eq_false, beq_true, beq_false, beq_self_eq_true, Bool.not_true, Bool.not_false, reduceCtorEq, List.getElem?_toArray, List.getElem?_cons_zero, List.getElem?_cons_succ]
    refine Test.split (fun hg => ?_) (fun hg => ?_)
    · simp only [Bool.not_eq_true'] at hg
      refine s_reg ?_
      simp only [o_cont, o_callT, callV_fn, o_pure, o_eff, o_callF, o_callN, o_guard, gk_tt, gk_ff, gk_tf, gk_ft, gk_u, t_op, t_alt, t_nil, o_nil, POp.ev, Opd.ev, EOp.ev, env0, gu, gv, setD, resV, List.set, List.map, List.map_nil, List.map_cons, Option.map_none, Option.map_some, Option.some.injEq, exists_eq_left', pickV, binV, convV, load1V, max2V, min2V, nilchkV, unV, boolEq, isNilV, fadV, extV, slenV, ne_eq, not_true_eq_false, if_false, if_true, ite_true, ite_false, Bool.false_eq_true, Bool.true_eq_false, beq_true, beq_false, beq_self_eq_true, Bool.not_true, Bool.not_false, reduceCtorEq, List.getElem?_toArray, List.getElem?_cons_zero, List.getElem?_cons_succ]
      refine s_ret1 ?_
      simp +decide only [p_seq_normal, p_seq_ret, p_seq_exit, p_block_normal, p_block_ret, p_block_exit, p_fin_ret, p_fin_normal, reduceIte, Nat.reduceEqDiff, resV, resOne, resL, gv, Option.some.injEq, exists_eq_left', Option.bind_some, Option.map_some, List.getD_cons_zero, List.getD_cons_succ]
      have hno : timesR n u ss = none := by
        unfold timesR
        rw [if_neg]
        intro hc
        have := List.all_eq_true.1 hc _ (List.getElem_mem hlt')
        rw [hg] at this
        cases this
      refine ⟨⟨.slice none 0 0, ?_, ?_⟩, (hx.trans hx2).trans hx3⟩
      · rw [hno]; rfl
      · rw [hno]; exact .inl ⟨rfl, rfl⟩
    · simp only [Bool.not_eq_false'] at hg
      have hv3 := VecT.ext hv hx3
      have hcv : cellsV w = some [w] := Vec.cellsV hv3
      have hnx3 := hx3.next
      obtain ⟨v', H4, b', g1, g2, g3⟩ := hG.push (lim := lim) (by omega) hx (Nat.le_refl _) (by omega) (hx2.trans hx3) hc1 (by omega) hv3 (by rw [List.length_map, List.length_take]; omega)
      refine s_skip1 ?_
      simp +decide only [p_seq_normal, p_seq_ret, p_seq_exit, p_block_normal, p_block_ret, p_block_exit, p_fin_ret, p_fin_normal, reduceIte, Nat.reduceEqDiff, resV, resOne, resL, gv, Option.some.injEq, exists_eq_left', Option.bind_some, Option.map_some, List.getD_cons_zero, List.getD_cons_succ]
      refine s_reg1 ?_
      simp only [o_cont, o_callT, callV_fn, o_pure, o_eff, o_callF, o_callN, o_guard, gk_tt, gk_ff, gk_tf, gk_ft, gk_u, t_op, t_alt, t_nil, o_nil, POp.ev, Opd.ev, EOp.ev, env0, gu, gv, setD, resV, List.set, List.map, List.map_nil, List.map_cons, Option.map_none, Option.map_some, Option.some.injEq, exists_eq_left', pickV, binV, convV, load1V, max2V, min2V, nilchkV, unV, boolEq, isNilV, fadV, extV, slenV, ne_eq, not_true_eq_false, if_false, if_true, ite_true, ite_false, Bool.false_eq_true, Bool.true_eq_false, beq_true, beq_false, beq_self_eq_true, Bool.not_true, Bool.not_false, reduceCtorEq, List.getElem?_toArray, List.getElem?_cons_zero, List.getElem?_cons_succ, bsliceV _ _ hcv, g1]
      simp +decide only [p_seq_normal, p_seq_ret, p_seq_exit, p_block_normal, p_block_ret, p_block_exit, p_fin_ret, p_fin_normal, reduceIte, Nat.reduceEqDiff, resV, resOne, resL, gv, Option.some.injEq, exists_eq_left', Option.bind_some, Option.map_some, List.getD_cons_zero, List.getD_cons_succ]
      refine s_reg1 ?_
      simp only [o_cont, o_callT, callV_fn, o_pure, o_eff, o_callF, o_callN, o_guard, gk_tt, gk_ff, gk_tf, gk_ft, gk_u, t_op, t_alt, t_nil, o_nil, POp.ev, Opd.ev, EOp.ev, env0, gu, gv, setD, resV, List.set, List.map, List.map_nil, List.map_cons, Option.map_none, Option.map_some, Option.some.injEq, exists_eq_left', pickV, binV, convV, load1V, max2V, min2V, nilchkV, unV, boolEq, isNilV, fadV, extV, slenV, ne_eq, not_true_eq_false, if_false, if_true, ite_true, ite_false, Bool.false_eq_true, Bool.true_eq_false, beq_true, beq_false, beq_self_eq_true, Bool.not_true, Bool.not_false, reduceCtorEq, List.getElem?_toArray, List.getElem?_cons_zero, List.getElem?_cons_succ, add1 (i := i) (by omega)]
      simp +decide only [p_seq_normal, p_seq_ret, p_seq_exit, p_block_normal, p_block_ret, p_block_exit, p_fin_ret, p_fin_normal, reduceIte, Nat.reduceEqDiff, resV, resOne, resL, gv, Option.some.injEq, exists_eq_left', Option.bind_some, Option.map_some, List.getD_cons_zero, List.getD_cons_succ]
      refine Round.mk (j - 1) (by omega) ⟨i + 1, b', vs ++ [w], bs ++ [c], v', _, _, _, _, _, _, _, by omega, ?_, ?_, g3, rfl⟩
      · rw [List.take_add_one, List.getElem?_eq_getElem hlt', List.all_append, hall]
        simp [hg]
      · rw [List.take_add_one, List.getElem?_eq_getElem hlt', List.map_append]
        exact g2
  · have hge : i = ss.length := by simp at hlt; omega
    subst hge
    refine s_exit1 ?_
    simp +decide only [p_seq_normal, p_seq_ret, p_seq_exit, p_block_normal, p_block_ret, p_block_exit, p_fin_ret, p_fin_normal, reduceIte, Nat.reduceEqDiff, resV, resOne, resL, gv, Option.some.injEq, exists_eq_left', Option.bind_some, Option.map_some, List.getD_cons_zero, List.getD_cons_succ]
    refine s_reg ?_
    simp only [o_cont, o_callT, callV_fn, o_pure, o_eff, o_callF, o_callN, o_guard, gk_tt, gk_ff, gk_tf, gk_ft, gk_u, t_op, t_alt, t_nil, o_nil, POp.ev, Opd.ev, EOp.ev, env0, gu, gv, setD, resV, List.set, List.map, List.map_nil, List.map_cons, Option.map_none, Option.map_some, Option.some.injEq, exists_eq_left', pickV, binV, convV, load1V, max2V, min2V, nilchkV, unV, boolEq, isNilV, fadV, extV, slenV, ne_eq, not_true_eq_false, if_false, if_true, ite_true, ite_false, Bool.false_eq_true, Bool.true_eq_false, beq_true, beq_false, beq_self_eq_true, Bool.not_true, Bool.not_false, reduceCtorEq, List.getElem?_toArray, List.getElem?_cons_zero, List.getElem?_cons_succ]
    refine s_ret1 ?_
    simp +decide only [p_seq_normal, p_seq_ret, p_seq_exit, p_block_normal, p_block_ret, p_block_exit, p_fin_ret, p_fin_normal, reduceIte, Nat.reduceEqDiff, resV, resOne, resL, gv, Option.some.injEq, exists_eq_left', Option.bind_some, Option.map_some, List.getD_cons_zero, List.getD_cons_succ]
    rw [List.take_length] at hG hall
    have hR : timesR n u ss = some (ss.map (·.map (tr n u))) := by unfold timesR; rw [if_pos hall]
    rw [hR]
    exact ⟨⟨v, rfl, hG.own⟩, hx⟩

/-! ### the implementation's side -/
def sysR (f : Tm → Tm) (ss : List (List Tm)) : Option (List (List Tm)) := if goodSS (ss.map (·.map f)) then some (ss.map (·.map f)) else none
theorem systemResult_ok (lim : Nat) (s cp : Value) (g : FuncId) (f : Tm → Tm) (ss : List (List Tm)) (H : AHeap) (hl : lim ≤ H.next) (hs : SlSS H s ss) (hn : ss.length ≤ 1000000) (hn2 : ∀ p ∈ ss, p.length ≤ 20) (hok : ∀ p ∈ ss, ∀ t ∈ p, okTm t = true)
    (hf : ∀ p ∈ ss, Sorted (p.map f) ∧ ∀ t ∈ p.map f, t.c ≠ 0)
    (hcl : ∀ (H' : AHeap) (t : Tm), Ext H H' → okTm t = true → ACalls Try.prog lim g [tv t, cp] H' fun v H'' => SlT H'' v [f t] ∧ Ext H' H'') :
    ACalls Try.prog lim n_impl_systemResult [s, .func (.func g) #[] #[cp]] H fun v H' => ResSS H' H.next v (sysR f ss) ∧ Ext H H' := by
  refine is_impl_systemResult.go rfl ?_
  unfold c_impl_systemResult
  refine s_reg ?_
  simp only [o_cont, o_callT, callV_fn, o_pure, o_eff, o_callF, o_callN, o_guard, gk_tt, gk_ff, gk_tf, gk_ft, gk_u, t_op, t_alt, t_nil, o_nil, POp.ev, Opd.ev, EOp.ev, env0, gu, gv, setD, resV, List.set, List.map, List.map_nil, List.map_cons, Option.map_none, Option.map_some, Option.some.injEq, exists_eq_left', pickV, binV, convV, load1V, max2V, min2V, nilchkV, unV, boolEq, isNilV, fadV, extV, slenV, ne_eq, not_true_eq_false, if_false, if_true, ite_true, ite_false, Bool.false_eq_true, Bool.true_eq_false, beq_true, beq_false, beq_self_eq_true, Bool.not_true, Bool.not_false, reduceCtorEq, List.getElem?_toArray, List.getElem?_cons_zero, List.getElem?_cons_succ]
  refine s_reg ?_
  simp only [o_cont, o_callT, callV_fn, o_pure, o_eff, o_callF, o_callN, o_guard, gk_tt, gk_ff, gk_tf, gk_ft, gk_u, t_op, t_alt, t_nil, o_nil, POp.ev, Opd.ev, EOp.ev, env0, gu, gv, setD, resV, List.set, List.map, List.map_nil, List.map_cons, Option.map_none, Option.map_some, Option.some.injEq, exists_eq_left', pickV, binV, convV, load1V, max2V, min2V, nilchkV, unV, boolEq, isNilV, fadV, extV, slenV, ne_eq, not_true_eq_false, if_false, if_true, ite_true, ite_false, Bool.false_eq_true, Bool.true_eq_false, beq_true, beq_false, beq_self_eq_true, Bool.not_true, Bool.not_false, reduceCtorEq, List.getElem?_toArray, List.getElem?_cons_zero, List.getElem?_cons_succ]
  refine s_assoc (s_reg ?_)
  simp only [o_cont, o_callT, callV_fn, o_pure, o_eff, o_callF, o_callN, o_guard, gk_tt, gk_ff, gk_tf, gk_ft, gk_u, t_op, t_alt, t_nil, o_nil, POp.ev, Opd.ev, EOp.ev, env0, gu, gv, setD, resV, List.set, List.map, List.map_nil, List.map_cons, Option.map_none, Option.map_some, Option.some.injEq, exists_eq_left', pickV, binV, convV, load1V, max2V, min2V, nilchkV, unV, boolEq, isNilV, fadV, extV, slenV, ne_eq, not_true_eq_false, if_false, if_true, ite_true, ite_false, Bool.false_eq_true, Bool.true_eq_false, beq_true, beq_false, beq_self_eq_true, Bool.not_true, Bool.not_false, reduceCtorEq, List.getElem?_toArray, List.getElem?_cons_zero, List.getElem?_cons_succ, hs.lenV]
  refine s_block ?_
  refine s_loop1 (fun j e' H' => ∃ (i b : Nat) (vs : List Value) (bs : List Nat) (v x5 x6 x7 x11 x12 x13 : Value), i + j = ss.length ∧ GrowX H' H.next b vs bs v ((ss.take i).map (·.map f)) ∧ Ext H H' ∧
    e' = [s, .func (.func g) #[] #[cp], .slice none 0 0, .bool false, v, x5, x6, x7, s, .int .i64 ss.length, .int .i64 i, x11, x12, x13]) ss.length ⟨0, H.next, [], [], _, _, _, _, _, _, _, by omega, GrowX.nil' _, Ext.refl _, rfl⟩ ?_
  rintro j e' H' ⟨i, b, vs, bs, v, x5, x6, x7, x11, x12, x13, hij, hG, hx, rfl⟩
  have hnx := hx.next
  refine s_test ?_
  simp only [o_cont, o_callT, callV_fn, o_pure, o_eff, o_callF, o_callN, o_guard, gk_tt, gk_ff, gk_tf, gk_ft, gk_u, t_op, t_alt, t_nil, o_nil, POp.ev, Opd.ev, EOp.ev, env0, gu, gv, setD, resV, List.set, List.map, List.map_nil, List.map_cons, Option.map_none, Option.map_some, Option.some.injEq, exists_eq_left', pickV, binV, convV, load1V, max2V, min2V, nilchkV, unV, boolEq, isNilV, fadV, extV, slenV, ne_eq, not_true_eq_false, if_false, if_true, ite_true, ite_false, Bool.false_eq_true, Bool.true_eq_false, beq_true, beq_false, beq_self_eq_true, Bool.not_true, Bool.not_false, reduceCtorEq, List.getElem?_toArray, List.getElem?_cons_zero, List.getElem?_cons_succ]
  refine Test.split (fun hlt => ?_) (fun hlt => ?_)
  · have hlt' : i < ss.length := by simpa using hlt
    obtain ⟨b1, o1, s1, h1, h2, h3⟩ := (hs.ext hx).at hlt'
    have hpl := hn2 _ (List.getElem_mem hlt')
    have hpok := hok _ (List.getElem_mem hlt')
    obtain ⟨hso, hnz⟩ := hf _ (List.getElem_mem hlt')
    refine s_skip1 ?_
    simp +decide only [p_seq_normal, p_seq_ret, p_seq_exit, p_block_normal, p_block_ret, p_block_exit, p_fin_ret, p_fin_normal, reduceIte, Nat.reduceEqDiff, resV, resOne, resL, gv, Option.some.injEq, exists_eq_left', Option.bind_some, Option.map_some, List.getD_cons_zero, List.getD_cons_succ]
    refine s_block ?_
    refine s_reg ?_
    simp only [o_cont, o_callT, callV_fn, o_pure, o_eff, o_callF, o_callN, o_guard, gk_tt, gk_ff, gk_tf, gk_ft, gk_u, t_op, t_alt, t_nil, o_nil, POp.ev, Opd.ev, EOp.ev, env0, gu, gv, setD, resV, List.set, List.map, List.map_nil, List.map_cons, Option.map_none, Option.map_some, Option.some.injEq, exists_eq_left', pickV, binV, convV, load1V, max2V, min2V, nilchkV, unV, boolEq, isNilV, fadV, extV, slenV, ne_eq, not_true_eq_false, if_false, if_true, ite_true, ite_false, Bool.false_eq_true, Bool.true_eq_false, beq_true, beq_false, beq_self_eq_true, Bool.not_true, Bool.not_false, reduceCtorEq, List.getElem?_toArray, List.getElem?_cons_zero, List.getElem?_cons_succ, h1, h2]
    refine s_reg ?_
    simp only [o_cont, o_callT, callV_fn, o_pure, o_eff, o_callF, o_callN, o_guard, gk_tt, gk_ff, gk_tf, gk_ft, gk_u, t_op, t_alt, t_nil, o_nil, POp.ev, Opd.ev, EOp.ev, env0, gu, gv, setD, resV, List.set, List.map, List.map_nil, List.map_cons, Option.map_none, Option.map_some, Option.some.injEq, exists_eq_left', pickV, binV, convV, load1V, max2V, min2V, nilchkV, unV, boolEq, isNilV, fadV, extV, slenV, ne_eq, not_true_eq_false, if_false, if_true, ite_true, ite_false, Bool.false_eq_true, Bool.true_eq_false, beq_true, beq_false, beq_self_eq_true, Bool.not_true, Bool.not_false, reduceCtorEq, List.getElem?_toArray, List.getElem?_cons_zero, List.getElem?_cons_succ]
    refine s_cut1 (fun e'' H'' => ∃ (c : Nat) (w x7 x11 x12 x13 : Value), VecT H'' c w (ss[i].map f) ∧ H'.next ≤ c ∧ c ≤ H''.next ∧ Ext H' H'' ∧ e'' = [s, .func (.func g) #[] #[cp], .slice none 0 0, .bool false, v, s1, w, x7, s, .int .i64 ss.length, .int .i64 i, x11, x12, x13]) ?_ ?_
    · refine s_reg ?_
      simp only [o_cont, o_callT, callV_fn, o_pure, o_eff, o_callF, o_callN, o_guard, gk_tt, gk_ff, gk_tf, gk_ft, gk_u, t_op, t_alt, t_nil, o_nil, POp.ev, Opd.ev, EOp.ev, env0, gu, gv, setD, resV, List.set, List.map, List.map_nil, List.map_cons, Option.map_none, Option.map_some, Option.some.injEq, exists_eq_left', pickV, binV, convV, load1V, max2V, min2V, nilchkV, unV, boolEq, isNilV, fadV, extV, slenV, ne_eq, not_true_eq_false, if_false, if_true, ite_true, ite_false, Bool.false_eq_true, Bool.true_eq_false, beq_true, beq_false, beq_self_eq_true, Bool.not_true, Bool.not_false, reduceCtorEq, List.getElem?_toArray, List.getElem?_cons_zero, List.getElem?_cons_succ, h3.lenV]
      refine s_block1 ?_
      refine s_loop1 (fun j2 e' H2 => ∃ (k c : Nat) (w x7 : Value), k + j2 = ss[i].length ∧ VecT H2 c w ((ss[i].take k).map f) ∧ H'.next ≤ c ∧ c ≤ H2.next ∧ Ext H' H2 ∧ e' = [s, .func (.func g) #[] #[cp], .slice none 0 0, .bool false, v, s1, w, x7, s, .int .i64 ss.length, .int .i64 i, s1, .int .i64 ss[i].length, .int .i64 k]) ss[i].length ⟨0, H'.next, _, _, by omega, vecT_nil _ _, Nat.le_refl _, Nat.le_refl _, Ext.refl _, rfl⟩ ?_
      rintro j2 e' H2 ⟨k, c, w, x7, hkj, hv, hc1, hc2, hx2, rfl⟩
      have hnx2 := hx2.next
      refine s_test ?_
      simp only [o_cont, o_callT, callV_fn, o_pure, o_eff, o_callF, o_callN, o_guard, gk_tt, gk_ff, gk_tf, gk_ft, gk_u, t_op, t_alt, t_nil, o_nil, POp.ev, Opd.ev, EOp.ev, env0, gu, gv, setD, resV, List.set, List.map, List.map_nil, List.map_cons, Option.map_none, Option.map_some, Option.some.injEq, exists_eq_left', pickV, binV, convV, load1V, max2V, min2V, nilchkV, unV, boolEq, isNilV, fadV, extV, slenV, ne_eq, not_true_eq_false, if_false, if_true, ite_true, ite_false, Bool.false_eq_true, Bool.true_eq_false, beq_true, beq_false, beq_self_eq_true, Bool.not_true, Bool.not_false, reduceCtorEq, List.getElem?_toArray, List.getElem?_cons_zero, List.getElem?_cons_succ]
      refine Test.split (fun hlt2 => ?_) (fun hlt2 => ?_)
      · have hk : k < ss[i].length := by simpa using hlt2
        obtain ⟨b2, o2, k1, a2⟩ := (h3.ext hx2).at hk
        have hto := hpok _ (List.getElem_mem hk)
        generalize hte : ss[i][k] = t at a2 hto
        refine s_skip1 ?_
        simp +decide only [p_seq_normal, p_seq_ret, p_seq_exit, p_block_normal, p_block_ret, p_block_exit, p_fin_ret, p_fin_normal, reduceIte, Nat.reduceEqDiff, resV, resOne, resL, gv, Option.some.injEq, exists_eq_left', Option.bind_some, Option.map_some, List.getD_cons_zero, List.getD_cons_succ]
        refine s_block ?_
        refine s_reg ?_
        simp only [o_cont, o_callT, callV_fn, o_pure, o_eff, o_callF, o_callN, o_guard, gk_tt, gk_ff, gk_tf, gk_ft, gk_u, t_op, t_alt, t_nil, o_nil, POp.ev, Opd.ev, EOp.ev, env0, gu, gv, setD, resV, List.set, List.map, List.map_nil, List.map_cons, Option.map_none, Option.map_some, Option.some.injEq, exists_eq_left', pickV, binV, convV, load1V, max2V, min2V, nilchkV, unV, boolEq, isNilV, fadV, extV, slenV, ne_eq, not_true_eq_false, if_false, if_true, ite_true, ite_false, Bool.false_eq_true, Bool.true_eq_false, beq_true, beq_false, beq_self_eq_true, Bool.not_true, Bool.not_false, reduceCtorEq, List.getElem?_toArray, List.getElem?_cons_zero, List.getElem?_cons_succ, k1, a2.all, store4_new (lim := lim) (H := H2) (by omega)]
        have hB := BoxT.mk' H2 t
        generalize H2.alloc (tc t) = H3 at hB ⊢
        generalize hqe : H2.next = q at hB ⊢
        refine s_reg1 ?_
        simp only [o_cont, o_callT, callV_fn, o_pure, o_eff, o_callF, o_callN, o_guard, gk_tt, gk_ff, gk_tf, gk_ft, gk_u, t_op, t_alt, t_nil, o_nil, POp.ev, Opd.ev, EOp.ev, env0, gu, gv, setD, resV, List.set, List.map, List.map_nil, List.map_cons, Option.map_none, Option.map_some, Option.some.injEq, exists_eq_left', pickV, binV, convV, load1V, max2V, min2V, nilchkV, unV, boolEq, isNilV, fadV, extV, slenV, ne_eq, not_true_eq_false, if_false, if_true, ite_true, ite_false, Bool.false_eq_true, Bool.true_eq_false, beq_true, beq_false, beq_self_eq_true, Bool.not_true, Bool.not_false, reduceCtorEq, List.getElem?_toArray, List.getElem?_cons_zero, List.getElem?_cons_succ, hB.all, callV_clo, List.cons_append, List.nil_append]
        refine (hcl H3 t ((hx.trans hx2).trans hB.ext) hto).mono ?_
        rintro u H4 ⟨hu, hx4⟩
        have hxx := hB.ext.trans hx4
        have hn4 := hxx.next
        obtain ⟨w', H5, c', g1, g2, g3, g4, g5⟩ := appendT (lim := lim) (VecT.ext hv hxx) hu (by omega) (by simp; omega)
        have hc5 := g5.next
        simp only [o_cont, o_callT, callV_fn, o_pure, o_eff, o_callF, o_callN, o_guard, gk_tt, gk_ff, gk_tf, gk_ft, gk_u, t_op, t_alt, t_nil, o_nil, POp.ev, Opd.ev, EOp.ev, env0, gu, gv, setD, resV, List.set, List.map, List.map_nil, List.map_cons, Option.map_none, Option.map_some, Option.some.injEq, exists_eq_left', pickV, binV, convV, load1V, max2V, min2V, nilchkV, unV, boolEq, isNilV, fadV, extV, slenV, ne_eq, not_true_eq_false, if_false, if_true, ite_true, ite_false, Bool.false_eq_true, Bool.true_eq_false, beq_true, beq_false, beq_self_eq_true, Bool.not_true, Bool.not_false, reduceCtorEq, List.getElem?_toArray, List.getElem?_cons_zero, List.getElem?_cons_succ, g1]
        simp +decide only [p_seq_normal, p_seq_ret, p_seq_exit, p_block_normal, p_block_ret, p_block_exit, p_fin_ret, p_fin_normal, reduceIte, Nat.reduceEqDiff, resV, resOne, resL, gv, Option.some.injEq, exists_eq_left', Option.bind_some, Option.map_some, List.getD_cons_zero, List.getD_cons_succ]
        refine s_reg1 ?_
        simp only [o_cont, o_callT, callV_fn, o_pure, o_eff, o_callF, o_callN, o_guard, gk_tt, gk_ff, gk_tf, gk_ft, gk_u, t_op, t_alt, t_nil, o_nil, POp.ev, Opd.ev, EOp.ev, env0, gu, gv, setD, resV, List.set, List.map, List.map_nil, List.map_cons, Option.map_none, Option.map_some, Option.some.injEq, exists_eq_left', pickV, binV, convV, load1V, max2V, min2V, nilchkV, unV, boolEq, isNilV, fadV, extV, slenV, ne_eq, not_true_eq_false, if_false, if_true, ite_true, ite_false, Bool.false_eq_true, Bool.true_eq_false, beq_true, beq_false, beq_self_eq_true, Bool.not_true, Bool.not_false, reduceCtorEq, List.getElem?_toArray, List.getElem?_cons_zero, List.getElem?_cons_succ, add1 (i := k) (by omega)]
        simp +decide only [p_seq_normal, p_seq_ret, p_seq_exit, p_block_normal, p_block_ret, p_block_exit, p_fin_ret, p_fin_normal, reduceIte, Nat.reduceEqDiff, resV, resOne, resL, gv, Option.some.injEq, exists_eq_left', Option.bind_some, Option.map_some, List.getD_cons_zero, List.getD_cons_succ]
        have hlt5 := g4 (by simp)
        refine Round.mk (j2 - 1) (by omega) ⟨k + 1, c', w', _, by omega, ?_, by rcases g3 with rfl | g3 <;> omega, by omega, Chg.ext (hx2.trans hxx) g5 hc1, rfl⟩
        rw [List.take_add_one, List.getElem?_eq_getElem hk, hte, List.map_append]
        exact g2
      · have hge : k = ss[i].length := by simp at hlt2; omega
        refine s_exit1 ?_
        simp +decide only [p_seq_normal, p_seq_ret, p_seq_exit, p_block_normal, p_block_ret, p_block_exit, p_fin_ret, p_fin_normal, reduceIte, Nat.reduceEqDiff, resV, resOne, resL, gv, Option.some.injEq, exists_eq_left', Option.bind_some, Option.map_some, List.getD_cons_zero, List.getD_cons_succ]
        rw [hge, List.take_length] at hv
        exact ⟨c, w, _, _, _, _, hv, hc1, hc2, hx2, rfl⟩
    rintro e'' H2 ⟨c, w, y7, y11, y12, y13, hv, hc1, hc2, hx2, rfl⟩
    have hnx2 := hx2.next
    refine s_reg1 ?_
    simp only [o_cont, o_callT, callV_fn, o_pure, o_eff, o_callF, o_callN, o_guard, gk_tt, gk_ff, gk_tf, gk_ft, gk_u, t_op, t_alt, t_nil, o_nil, POp.ev, Opd.ev, EOp.ev, env0, gu, gv, setD, resV, List.set, List.map, List.map_nil, List.map_cons, Option.map_none, Option.map_some, Option.some.injEq, exists_eq_left', pickV, binV, convV, load1V, max2V, min2V, nilchkV, unV, boolEq, isNilV, fadV, extV, slenV, ne_eq, not_true_eq_false, if_false, if_true, ite_true, ite_false, Bool.false_eq_true, Bool.true_eq_false, beq_true, beq_false, beq_self_eq_true, Bool.not_true, Bool.not_false, reduceCtorEq, List.getElem?_toArray, List.getElem?_cons_zero, List.getElem?_cons_succ]
    refine (collect_ok lim _ _ _ (by omega) (Vec.sl hv) hso hnz (by simp; omega)).mono ?_
    rintro w3 H3 ⟨c3, hc31, hc32, hv3, hx3⟩
    have hcv : cellsV w3 = some [w3] := Vec.cellsV hv3
    have hnx3 := hx3.next
    obtain ⟨v', H4, b', g1, g2, g3⟩ := hG.push (lim := lim) (by omega) hx (Nat.le_refl _) (by omega) (hx2.trans hx3) (by omega) hc32 hv3 (by rw [List.length_map, List.length_take]; omega)
    simp only [o_cont, o_callT, callV_fn, o_pure, o_eff, o_callF, o_callN, o_guard, gk_tt, gk_ff, gk_tf, gk_ft, gk_u, t_op, t_alt, t_nil, o_nil, POp.ev, Opd.ev, EOp.ev, env0, gu, gv, setD, resV, List.set, List.map, List.map_nil, List.map_cons, Option.map_none, Option.map_some, Option.some.injEq, exists_eq_left', pickV, binV, convV, load1V, max2V, min2V, nilchkV, unV, boolEq, isNilV, fadV, extV, slenV, ne_eq, not_true_eq_false, if_false, if_true, ite_true, ite_false, Bool.false_eq_true, Bool.true_eq_false, beq_true, beq_false, beq_self_eq_true, Bool.not_true, Bool.not_false, reduceCtorEq, List.getElem?_toArray, List.getElem?_cons_zero, List.getElem?_cons_succ, bsliceV _ _ hcv, g1]
    simp +decide only [p_seq_normal, p_seq_ret, p_seq_exit, p_block_normal, p_block_ret, p_block_exit, p_fin_ret, p_fin_normal, reduceIte, Nat.reduceEqDiff, resV, resOne, resL, gv, Option.some.injEq, exists_eq_left', Option.bind_some, Option.map_some, List.getD_cons_zero, List.getD_cons_succ]
    refine s_reg1 ?_
    simp only [o_cont, o_callT, callV_fn, o_pure, o_eff, o_callF, o_callN, o_guard, gk_tt, gk_ff, gk_tf, gk_ft, gk_u, t_op, t_alt, t_nil, o_nil, POp.ev, Opd.ev, EOp.ev, env0, gu, gv, setD, resV, List.set, List.map, List.map_nil, List.map_cons, Option.map_none, Option.map_some, Option.some.injEq, exists_eq_left', pickV, binV, convV, load1V, max2V, min2V, nilchkV, unV, boolEq, isNilV, fadV, extV, slenV, ne_eq, not_true_eq_false, if_false, if_true, ite_true, ite_false, Bool.false_eq_true, Bool.true_eq_false, beq_true, beq_false, beq_self_eq_true, Bool.not_true, Bool.not_false, reduceCtorEq, List.getElem?_toArray, List.getElem?_cons_zero, List.getElem?_cons_succ, add1 (i := i) (by omega)]
    simp +decide only [p_seq_normal, p_seq_ret, p_seq_exit, p_block_normal, p_block_ret, p_block_exit, p_fin_ret, p_fin_normal, reduceIte, Nat.reduceEqDiff, resV, resOne, resL, gv, Option.some.injEq, exists_eq_left', Option.bind_some, Option.map_some, List.getD_cons_zero, List.getD_cons_succ]
    refine Round.mk (j - 1) (by omega) ⟨i + 1, b', vs ++ [w3], bs ++ [c3], v', _, _, _, _, _, _, by omega, ?_, g3, rfl⟩
    rw [List.take_add_one, List.getElem?_eq_getElem hlt', List.map_append]
    exact g2
  · have hge : i = ss.length := by simp at hlt; omega
    subst hge
    rw [List.take_length] at hG
    have hO := hG.own
    refine s_exit1 ?_
    simp +decide only [p_seq_normal, p_seq_ret, p_seq_exit, p_block_normal, p_block_ret, p_block_exit, p_fin_ret, p_fin_normal, reduceIte, Nat.reduceEqDiff, resV, resOne, resL, gv, Option.some.injEq, exists_eq_left', Option.bind_some, Option.map_some, List.getD_cons_zero, List.getD_cons_succ]
    refine s_test ?_
    simp only [o_cont, o_callT, callV_fn, o_pure, o_eff, o_callF, o_callN, o_guard, gk_tt, gk_ff, gk_tf, gk_ft, gk_u, t_op, t_alt, t_nil, o_nil, POp.ev, Opd.ev, EOp.ev, env0, gu, gv, setD, resV, List.set, List.map, List.map_nil, List.map_cons, Option.map_none, Option.map_some, Option.some.injEq, exists_eq_left', pickV, binV, convV, load1V, max2V, min2V, nilchkV, unV, boolEq, isNilV, fadV, extV, slenV, ne_eq, not_true_eq_false, if_false, if_true, ite_true, ite_false, Bool.false_eq_true, Bool.true_eq_false, beq_true, beq_false, beq_self_eq_true, Bool.not_true, Bool.not_false, reduceCtorEq, List.getElem?_toArray, List.getElem?_cons_zero, List.getElem?_cons_succ]
    refine (isSystem_ok lim _ _ _ (by omega) hO.slss (by simpa using hn) (by intro p hp; obtain ⟨q, hq, rfl⟩ := List.mem_map.1 hp; have := hn2 q hq; simp; omega)).mono ?_
    rintro _ H2 ⟨rfl, hx2⟩
    have hnx2 := hx2.next
    simp only [o_cont, o_callT, callV_fn, o_pure, o_eff, o_callF, o_callN, o_guard, gk_tt, gk_ff, gk_tf, gk_ft, gk_u, t_op, t_alt, t_nil, o_nil, POp.ev, Opd.ev, EOp.ev, env0, gu, gv, setD, resV, List.set, List.map, List.map_nil, List.map_cons, Option.map_none, Option.map_some, Option.some.injEq, exists_eq_left', pickV, binV, convV, load1V, max2V, min2V, nilchkV, unV, boolEq, isNilV, fadV, extV, slenV, ne_eq, not_true_eq_false, if_false, if_true, ite_true, ite_false, Bool.false_eq_true, Bool.true_eq_false, beq_true, beq_false, beq_self_eq_true, Bool.not_true, Bool.not_false, reduceCtorEq, List.getElem?_toArray, List.getElem?_cons_zero, List.getElem?_cons_succ]
    unfold sysR
    refine Test.split (fun hg => ?_) (fun hg => ?_)
    · simp only [Bool.not_eq_true'] at hg
      refine s_reg ?_
      simp only [o_cont, o_callT, callV_fn, o_pure, o_eff, o_callF, o_callN, o_guard, gk_tt, gk_ff, gk_tf, gk_ft, gk_u, t_op, t_alt, t_nil, o_nil, POp.ev, Opd.ev, EOp.ev, env0, gu, gv, setD, resV, List.set, List.map, List.map_nil, List.map_cons, Option.map_none, Option.map_some, Option.some.injEq, exists_eq_left', pickV, binV, convV, load1V, max2V, min2V, nilchkV, unV, boolEq, isNilV, fadV, extV, slenV, ne_eq, not_true_eq_false, if_false, if_true, ite_true, ite_false, Bool.false_eq_true, Bool.true_eq_false, beq_true, beq_false, beq_self_eq_true, Bool.not_true, Bool.not_false, reduceCtorEq, List.getElem?_toArray, List.getElem?_cons_zero, List.getElem?_cons_succ]
      refine s_ret1 ?_
      simp +decide only [p_seq_normal, p_seq_ret, p_seq_exit, p_block_normal, p_block_ret, p_block_exit, p_fin_ret, p_fin_normal, reduceIte, Nat.reduceEqDiff, resV, resOne, resL, gv, Option.some.injEq, exists_eq_left', Option.bind_some, Option.map_some, List.getD_cons_zero, List.getD_cons_succ]
      rw [hg]
      exact ⟨⟨.slice none 0 0, rfl, .inl ⟨rfl, rfl⟩⟩, hx.trans hx2⟩
    · simp only [Bool.not_eq_false'] at hg
      refine s_skip1 ?_
      simp +decide only [p_seq_normal, p_seq_ret, p_seq_exit, p_block_normal, p_block_ret, p_block_exit, p_fin_ret, p_fin_normal, reduceIte, Nat.reduceEqDiff, resV, resOne, resL, gv, Option.some.injEq, exists_eq_left', Option.bind_some, Option.map_some, List.getD_cons_zero, List.getD_cons_succ]
      refine s_reg ?_
      simp only [o_cont, o_callT, callV_fn, o_pure, o_eff, o_callF, o_callN, o_guard, gk_tt, gk_ff, gk_tf, gk_ft, gk_u, t_op, t_alt, t_nil, o_nil, POp.ev, Opd.ev, EOp.ev, env0, gu, gv, setD, resV, List.set, List.map, List.map_nil, List.map_cons, Option.map_none, Option.map_some, Option.some.injEq, exists_eq_left', pickV, binV, convV, load1V, max2V, min2V, nilchkV, unV, boolEq, isNilV, fadV, extV, slenV, ne_eq, not_true_eq_false, if_false, if_true, ite_true, ite_false, Bool.false_eq_true, Bool.true_eq_false, beq_true, beq_false, beq_self_eq_true, Bool.not_true, Bool.not_false, reduceCtorEq, List.getElem?_toArray, List.getElem?_cons_zero, List.getElem?_cons_succ]
      refine s_ret1 ?_
      simp +decide only [p_seq_normal, p_seq_ret, p_seq_exit, p_block_normal, p_block_ret, p_block_exit, p_fin_ret, p_fin_normal, reduceIte, Nat.reduceEqDiff, resV, resOne, resL, gv, Option.some.injEq, exists_eq_left', Option.bind_some, Option.map_some, List.getD_cons_zero, List.getD_cons_succ]
      rw [hg]
      exact ⟨⟨v, rfl, (hO.ext hx2).wide (Nat.le_refl _) hnx2⟩, hx.trans hx2⟩
end Go.Proofs.Ytaimceodhhgnnaa
