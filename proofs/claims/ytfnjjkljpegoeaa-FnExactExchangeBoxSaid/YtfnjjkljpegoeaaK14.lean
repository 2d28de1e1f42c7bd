/- The box laws, part 9 of their walk: the law's copies of a box; no condition beyond stated lengths. -/
import Derived.Test.YtfnjjkljpegoeaaK13
namespace Go.Proofs.Ytfnjjkljpegoeaa
open Go.Ab
set_option linter.unusedSimpArgs false
set_option linter.unusedVariables false

/-- a copy that is laid out with room behind it -/
def Laid (H : AHeap) (b : Nat) (v : Value) (l : List Int) : Prop := v = .slice (some ⟨b, 0, some 0⟩) l.length (l.length + roomN l.length) ∧ b < H.next ∧ H.blk b = some (laid l)
theorem Laid.vec {H : AHeap} {b : Nat} {v : Value} {l : List Int} (h : Laid H b v l) : VecI H b v l := by
  obtain ⟨rfl, h1, h2⟩ := h
  exact .inr ⟨_, _, List.replicate (roomN l.length) fil, rfl, .inl rfl, h1, h2, by simp, by omega, by simp⟩
theorem Laid.ext {H H' : AHeap} {b : Nat} {v : Value} {l : List Int} (h : Laid H b v l) (hx : Ext H H') : Laid H' b v l := ⟨h.1, Nat.lt_of_lt_of_le h.2.1 hx.next, by rw [hx.blk _ h.2.1]; exact h.2.2⟩

theorem szBox_ok (lim : Nat) (x : Value) (k : Int) (low high : List Int) (left : Int) (H : AHeap) (hl : lim ≤ H.next) (hv : BoxV H x k low high) (hn : low.length ≤ 20000000000000) (hn2 : high.length ≤ 20000000000000) (h0 : -20000000000000 ≤ left) (h1 : left ≤ 1000000000) :
    ACalls Try.prog lim n_laws_szBox [x, .int .i64 left] H fun v H' => (∃ r : Int, v = .int .i64 r ∧ (¬ r < 0 → (low.length : Int) + high.length ≤ left)) ∧ Ext H H' := by
  obtain ⟨s, t, rfl, hs, ht⟩ := hv
  refine is_laws_szBox.go rfl ?_
  unfold c_laws_szBox
  refine s_reg ?_
  simp only [o_cont, o_callT, callV_fn, o_pure, o_eff, o_callF, o_callN, o_guard, gk_tt, gk_ff, gk_tf, gk_ft, gk_u, t_op, t_alt, t_nil, o_nil, POp.ev, Opd.ev, EOp.ev, env0, gu, gv, setD, resV, List.set, List.map, List.map_nil, List.map_cons, Option.map_none, Option.map_some, Option.some.injEq, exists_eq_left', pickV, binV, convV, load1V, max2V, min2V, nilchkV, unV, boolEq, isNilV, fadV, extV, slenV, ne_eq, not_true_eq_false, if_false, if_true, ite_true, ite_false, Bool.false_eq_true, Bool.true_eq_false, beq_true, beq_false, beq_self_eq_true, Bool.not_true, Bool.not_false, reduceCtorEq, List.getElem?_toArray, List.getElem?_cons_zero, List.getElem?_cons_succ, boxH, cellsV]
  have hx : Ext H (H.alloc [.int .i64 k, s, t]) := Ext.alloc _ _
  have hbp : (H.alloc [.int .i64 k, s, t]).blk H.next = some [.int .i64 k, s, t] := alloc_new _ _
  have hs' := hs.keep (Keep.of_ext hx (Nat.le_refl _)) (Nat.le_refl _)
  have ht' := ht.keep (Keep.of_ext hx (Nat.le_refl _)) (Nat.le_refl _)
  generalize H.alloc [.int .i64 k, s, t] = H1 at hx hbp hs' ht' ⊢
  refine s_reg ?_
  simp only [o_cont, o_callT, callV_fn, o_pure, o_eff, o_callF, o_callN, o_guard, gk_tt, gk_ff, gk_tf, gk_ft, gk_u, t_op, t_alt, t_nil, o_nil, POp.ev, Opd.ev, EOp.ev, env0, gu, gv, setD, resV, List.set, List.map, List.map_nil, List.map_cons, Option.map_none, Option.map_some, Option.some.injEq, exists_eq_left', pickV, binV, convV, load1V, max2V, min2V, nilchkV, unV, boolEq, isNilV, fadV, extV, slenV, ne_eq, not_true_eq_false, if_false, if_true, ite_true, ite_false, Bool.false_eq_true, Bool.true_eq_false, beq_true, beq_false, beq_self_eq_true, Bool.not_true, Bool.not_false, reduceCtorEq, List.getElem?_toArray, List.getElem?_cons_zero, List.getElem?_cons_succ, cell_blk hbp, Nat.zero_add]
  refine (szIntS_ok _ _ _ _ _ hs' h0 h1 hn).eq ?_
  by_cases c1 : left - low.length < 0
  · rw [if_pos c1]
    simp only [o_cont, o_callT, callV_fn, o_pure, o_eff, o_callF, o_callN, o_guard, gk_tt, gk_ff, gk_tf, gk_ft, gk_u, t_op, t_alt, t_nil, o_nil, POp.ev, Opd.ev, EOp.ev, env0, gu, gv, setD, resV, List.set, List.map, List.map_nil, List.map_cons, Option.map_none, Option.map_some, Option.some.injEq, exists_eq_left', pickV, binV, convV, load1V, max2V, min2V, nilchkV, unV, boolEq, isNilV, fadV, extV, slenV, ne_eq, not_true_eq_false, if_false, if_true, ite_true, ite_false, Bool.false_eq_true, Bool.true_eq_false, beq_true, beq_false, beq_self_eq_true, Bool.not_true, Bool.not_false, reduceCtorEq, List.getElem?_toArray, List.getElem?_cons_zero, List.getElem?_cons_succ]
    have d1 : decide ((-1 : Int) < 0) = true := by decide
    refine s_test ?_
    simp only [o_cont, o_callT, callV_fn, o_pure, o_eff, o_callF, o_callN, o_guard, gk_tt, gk_ff, gk_tf, gk_ft, gk_u, t_op, t_alt, t_nil, o_nil, POp.ev, Opd.ev, EOp.ev, env0, gu, gv, setD, resV, List.set, List.map, List.map_nil, List.map_cons, Option.map_none, Option.map_some, Option.some.injEq, exists_eq_left', pickV, binV, convV, load1V, max2V, min2V, nilchkV, unV, boolEq, isNilV, fadV, extV, slenV, ne_eq, not_true_eq_false, if_false, if_true, ite_true, ite_false, Bool.false_eq_true, Bool.true_eq_false, beq_true, beq_false, beq_self_eq_true, Bool.not_true, Bool.not_false, reduceCtorEq, List.getElem?_toArray, List.getElem?_cons_zero, List.getElem?_cons_succ, d1]
    refine Test.true_ (s_reg ?_)
    simp only [o_cont, o_callT, callV_fn, o_pure, o_eff, o_callF, o_callN, o_guard, gk_tt, gk_ff, gk_tf, gk_ft, gk_u, t_op, t_alt, t_nil, o_nil, POp.ev, Opd.ev, EOp.ev, env0, gu, gv, setD, resV, List.set, List.map, List.map_nil, List.map_cons, Option.map_none, Option.map_some, Option.some.injEq, exists_eq_left', pickV, binV, convV, load1V, max2V, min2V, nilchkV, unV, boolEq, isNilV, fadV, extV, slenV, ne_eq, not_true_eq_false, if_false, if_true, ite_true, ite_false, Bool.false_eq_true, Bool.true_eq_false, beq_true, beq_false, beq_self_eq_true, Bool.not_true, Bool.not_false, reduceCtorEq, List.getElem?_toArray, List.getElem?_cons_zero, List.getElem?_cons_succ]
    refine s_ret1 ?_
    simp +decide only [p_seq_normal, p_seq_ret, p_seq_exit, p_block_normal, p_block_ret, p_block_exit, p_fin_ret, p_fin_normal, reduceIte, Nat.reduceEqDiff, resV, resOne, resL, gv, Option.some.injEq, exists_eq_left', Option.bind_some, Option.map_some, List.getD_cons_zero, List.getD_cons_succ]
    exact ⟨⟨_, rfl, by omega⟩, hx⟩
  · rw [if_neg c1]
    simp only [o_cont, o_callT, callV_fn, o_pure, o_eff, o_callF, o_callN, o_guard, gk_tt, gk_ff, gk_tf, gk_ft, gk_u, t_op, t_alt, t_nil, o_nil, POp.ev, Opd.ev, EOp.ev, env0, gu, gv, setD, resV, List.set, List.map, List.map_nil, List.map_cons, Option.map_none, Option.map_some, Option.some.injEq, exists_eq_left', pickV, binV, convV, load1V, max2V, min2V, nilchkV, unV, boolEq, isNilV, fadV, extV, slenV, ne_eq, not_true_eq_false, if_false, if_true, ite_true, ite_false, Bool.false_eq_true, Bool.true_eq_false, beq_true, beq_false, beq_self_eq_true, Bool.not_true, Bool.not_false, reduceCtorEq, List.getElem?_toArray, List.getElem?_cons_zero, List.getElem?_cons_succ]
    have d1 : decide (left - (low.length : Int) < 0) = false := by simpa using c1
    refine s_test ?_
    simp only [o_cont, o_callT, callV_fn, o_pure, o_eff, o_callF, o_callN, o_guard, gk_tt, gk_ff, gk_tf, gk_ft, gk_u, t_op, t_alt, t_nil, o_nil, POp.ev, Opd.ev, EOp.ev, env0, gu, gv, setD, resV, List.set, List.map, List.map_nil, List.map_cons, Option.map_none, Option.map_some, Option.some.injEq, exists_eq_left', pickV, binV, convV, load1V, max2V, min2V, nilchkV, unV, boolEq, isNilV, fadV, extV, slenV, ne_eq, not_true_eq_false, if_false, if_true, ite_true, ite_false, Bool.false_eq_true, Bool.true_eq_false, beq_true, beq_false, beq_self_eq_true, Bool.not_true, Bool.not_false, reduceCtorEq, List.getElem?_toArray, List.getElem?_cons_zero, List.getElem?_cons_succ, d1]
    refine Test.false_ (s_skip1 ?_)
    simp +decide only [p_seq_normal, p_seq_ret, p_seq_exit, p_block_normal, p_block_ret, p_block_exit, p_fin_ret, p_fin_normal, reduceIte, Nat.reduceEqDiff, resV, resOne, resL, gv, Option.some.injEq, exists_eq_left', Option.bind_some, Option.map_some, List.getD_cons_zero, List.getD_cons_succ]
    refine s_reg ?_
    simp only [o_cont, o_callT, callV_fn, o_pure, o_eff, o_callF, o_callN, o_guard, gk_tt, gk_ff, gk_tf, gk_ft, gk_u, t_op, t_alt, t_nil, o_nil, POp.ev, Opd.ev, EOp.ev, env0, gu, gv, setD, resV, List.set, List.map, List.map_nil, List.map_cons, Option.map_none, Option.map_some, Option.some.injEq, exists_eq_left', pickV, binV, convV, load1V, max2V, min2V, nilchkV, unV, boolEq, isNilV, fadV, extV, slenV, ne_eq, not_true_eq_false, if_false, if_true, ite_true, ite_false, Bool.false_eq_true, Bool.true_eq_false, beq_true, beq_false, beq_self_eq_true, Bool.not_true, Bool.not_false, reduceCtorEq, List.getElem?_toArray, List.getElem?_cons_zero, List.getElem?_cons_succ, cell_blk hbp, Nat.zero_add]
    refine (szIntS_ok _ _ _ _ _ ht' (by omega) (by omega) hn2).eq ?_
    simp only [o_cont, o_callT, callV_fn, o_pure, o_eff, o_callF, o_callN, o_guard, gk_tt, gk_ff, gk_tf, gk_ft, gk_u, t_op, t_alt, t_nil, o_nil, POp.ev, Opd.ev, EOp.ev, env0, gu, gv, setD, resV, List.set, List.map, List.map_nil, List.map_cons, Option.map_none, Option.map_some, Option.some.injEq, exists_eq_left', pickV, binV, convV, load1V, max2V, min2V, nilchkV, unV, boolEq, isNilV, fadV, extV, slenV, ne_eq, not_true_eq_false, if_false, if_true, ite_true, ite_false, Bool.false_eq_true, Bool.true_eq_false, beq_true, beq_false, beq_self_eq_true, Bool.not_true, Bool.not_false, reduceCtorEq, List.getElem?_toArray, List.getElem?_cons_zero, List.getElem?_cons_succ]
    refine s_test ?_
    simp only [o_cont, o_callT, callV_fn, o_pure, o_eff, o_callF, o_callN, o_guard, gk_tt, gk_ff, gk_tf, gk_ft, gk_u, t_op, t_alt, t_nil, o_nil, POp.ev, Opd.ev, EOp.ev, env0, gu, gv, setD, resV, List.set, List.map, List.map_nil, List.map_cons, Option.map_none, Option.map_some, Option.some.injEq, exists_eq_left', pickV, binV, convV, load1V, max2V, min2V, nilchkV, unV, boolEq, isNilV, fadV, extV, slenV, ne_eq, not_true_eq_false, if_false, if_true, ite_true, ite_false, Bool.false_eq_true, Bool.true_eq_false, beq_true, beq_false, beq_self_eq_true, Bool.not_true, Bool.not_false, reduceCtorEq, List.getElem?_toArray, List.getElem?_cons_zero, List.getElem?_cons_succ]
    refine Test.split (fun h => ?_) (fun h => ?_)
    · refine s_reg ?_
      simp only [o_cont, o_callT, callV_fn, o_pure, o_eff, o_callF, o_callN, o_guard, gk_tt, gk_ff, gk_tf, gk_ft, gk_u, t_op, t_alt, t_nil, o_nil, POp.ev, Opd.ev, EOp.ev, env0, gu, gv, setD, resV, List.set, List.map, List.map_nil, List.map_cons, Option.map_none, Option.map_some, Option.some.injEq, exists_eq_left', pickV, binV, convV, load1V, max2V, min2V, nilchkV, unV, boolEq, isNilV, fadV, extV, slenV, ne_eq, not_true_eq_false, if_false, if_true, ite_true, ite_false, Bool.false_eq_true, Bool.true_eq_false, beq_true, beq_false, beq_self_eq_true, Bool.not_true, Bool.not_false, reduceCtorEq, List.getElem?_toArray, List.getElem?_cons_zero, List.getElem?_cons_succ]
      refine s_ret1 ?_
      simp +decide only [p_seq_normal, p_seq_ret, p_seq_exit, p_block_normal, p_block_ret, p_block_exit, p_fin_ret, p_fin_normal, reduceIte, Nat.reduceEqDiff, resV, resOne, resL, gv, Option.some.injEq, exists_eq_left', Option.bind_some, Option.map_some, List.getD_cons_zero, List.getD_cons_succ]
      exact ⟨⟨_, rfl, by omega⟩, hx⟩
    · refine s_skip1 ?_
      simp +decide only [p_seq_normal, p_seq_ret, p_seq_exit, p_block_normal, p_block_ret, p_block_exit, p_fin_ret, p_fin_normal, reduceIte, Nat.reduceEqDiff, resV, resOne, resL, gv, Option.some.injEq, exists_eq_left', Option.bind_some, Option.map_some, List.getD_cons_zero, List.getD_cons_succ]
      refine s_reg ?_
      simp only [o_cont, o_callT, callV_fn, o_pure, o_eff, o_callF, o_callN, o_guard, gk_tt, gk_ff, gk_tf, gk_ft, gk_u, t_op, t_alt, t_nil, o_nil, POp.ev, Opd.ev, EOp.ev, env0, gu, gv, setD, resV, List.set, List.map, List.map_nil, List.map_cons, Option.map_none, Option.map_some, Option.some.injEq, exists_eq_left', pickV, binV, convV, load1V, max2V, min2V, nilchkV, unV, boolEq, isNilV, fadV, extV, slenV, ne_eq, not_true_eq_false, if_false, if_true, ite_true, ite_false, Bool.false_eq_true, Bool.true_eq_false, beq_true, beq_false, beq_self_eq_true, Bool.not_true, Bool.not_false, reduceCtorEq, List.getElem?_toArray, List.getElem?_cons_zero, List.getElem?_cons_succ]
      refine s_ret1 ?_
      simp +decide only [p_seq_normal, p_seq_ret, p_seq_exit, p_block_normal, p_block_ret, p_block_exit, p_fin_ret, p_fin_normal, reduceIte, Nat.reduceEqDiff, resV, resOne, resL, gv, Option.some.injEq, exists_eq_left', Option.bind_some, Option.map_some, List.getD_cons_zero, List.getD_cons_succ]
      refine ⟨⟨_, rfl, fun hr => ?_⟩, hx⟩
      split at hr <;> omega

theorem intactBox_ok (lim : Nat) (k : Int) (low high : List Int) (b c b' c' : Nat) (s t s' t' : Value) (H : AHeap) (hl : lim ≤ H.next) (h1 : Laid H b s low) (h2 : Laid H c t high) (h3 : Laid H b' s' low) (h4 : Laid H c' t' high) (hn : low.length ≤ 1000000) (hn2 : high.length ≤ 1000000) :
    ACalls Try.prog lim n_laws_intactBox [.agg #[.int .i64 k, s, t], .agg #[.int .i64 k, s', t']] H fun v H' => v = .bool true ∧ Ext H H' := by
  refine is_laws_intactBox.go rfl ?_
  unfold c_laws_intactBox
  refine s_reg ?_
  simp only [o_cont, o_callT, callV_fn, o_pure, o_eff, o_callF, o_callN, o_guard, gk_tt, gk_ff, gk_tf, gk_ft, gk_u, t_op, t_alt, t_nil, o_nil, POp.ev, Opd.ev, EOp.ev, env0, gu, gv, setD, resV, List.set, List.map, List.map_nil, List.map_cons, Option.map_none, Option.map_some, Option.some.injEq, exists_eq_left', pickV, binV, convV, load1V, max2V, min2V, nilchkV, unV, boolEq, isNilV, fadV, extV, slenV, ne_eq, not_true_eq_false, if_false, if_true, ite_true, ite_false, Bool.false_eq_true, Bool.true_eq_false, beq_true, beq_false, beq_self_eq_true, Bool.not_true, Bool.not_false, reduceCtorEq, List.getElem?_toArray, List.getElem?_cons_zero, List.getElem?_cons_succ, boxH, cellsV]
  have hx : Ext H ((H.alloc [.int .i64 k, s, t]).alloc [.int .i64 k, s', t']) := (Ext.alloc _ _).trans (Ext.alloc _ _)
  have hbp : ((H.alloc [.int .i64 k, s, t]).alloc [.int .i64 k, s', t']).blk H.next = some [.int .i64 k, s, t] := by rw [alloc_old _ _ (Nat.lt_succ_self _)]; exact alloc_new _ _
  have hbq : ((H.alloc [.int .i64 k, s, t]).alloc [.int .i64 k, s', t']).blk (H.alloc [.int .i64 k, s, t]).next = some [.int .i64 k, s', t'] := alloc_new _ _
  generalize (H.alloc [.int .i64 k, s, t]).next = q at hbq ⊢
  generalize (H.alloc [.int .i64 k, s, t]).alloc [.int .i64 k, s', t'] = H1 at hx hbp hbq ⊢
  replace h1 := h1.ext hx
  replace h2 := h2.ext hx
  replace h3 := h3.ext hx
  replace h4 := h4.ext hx
  have d1 : (k != k) = false := by simp
  refine s_test ?_
  simp only [o_cont, o_callT, callV_fn, o_pure, o_eff, o_callF, o_callN, o_guard, gk_tt, gk_ff, gk_tf, gk_ft, gk_u, t_op, t_alt, t_nil, o_nil, POp.ev, Opd.ev, EOp.ev, env0, gu, gv, setD, resV, List.set, List.map, List.map_nil, List.map_cons, Option.map_none, Option.map_some, Option.some.injEq, exists_eq_left', pickV, binV, convV, load1V, max2V, min2V, nilchkV, unV, boolEq, isNilV, fadV, extV, slenV, ne_eq, not_true_eq_false, if_false, if_true, ite_true, ite_false, Bool.false_eq_true, Bool.true_eq_false, beq_true, beq_false, beq_self_eq_true, Bool.not_true, Bool.not_false, reduceCtorEq, List.getElem?_toArray, List.getElem?_cons_zero, List.getElem?_cons_succ, cell_blk hbp, cell_blk hbq, Nat.zero_add, d1]
  refine Test.false_ (s_skip1 ?_)
  simp +decide only [p_seq_normal, p_seq_ret, p_seq_exit, p_block_normal, p_block_ret, p_block_exit, p_fin_ret, p_fin_normal, reduceIte, Nat.reduceEqDiff, resV, resOne, resL, gv, Option.some.injEq, exists_eq_left', Option.bind_some, Option.map_some, List.getD_cons_zero, List.getD_cons_succ]
  refine s_test ?_
  simp only [o_cont, o_callT, callV_fn, o_pure, o_eff, o_callF, o_callN, o_guard, gk_tt, gk_ff, gk_tf, gk_ft, gk_u, t_op, t_alt, t_nil, o_nil, POp.ev, Opd.ev, EOp.ev, env0, gu, gv, setD, resV, List.set, List.map, List.map_nil, List.map_cons, Option.map_none, Option.map_some, Option.some.injEq, exists_eq_left', pickV, binV, convV, load1V, max2V, min2V, nilchkV, unV, boolEq, isNilV, fadV, extV, slenV, ne_eq, not_true_eq_false, if_false, if_true, ite_true, ite_false, Bool.false_eq_true, Bool.true_eq_false, beq_true, beq_false, beq_self_eq_true, Bool.not_true, Bool.not_false, reduceCtorEq, List.getElem?_toArray, List.getElem?_cons_zero, List.getElem?_cons_succ, cell_blk hbp, cell_blk hbq, Nat.zero_add]
  obtain ⟨rfl, i1, i2⟩ := h1
  obtain ⟨rfl, j1, j2⟩ := h3
  refine (intactIntS_ok _ _ _ _ _ i2 j2 i1 j1 hn).eq ?_
  simp only [o_cont, o_callT, callV_fn, o_pure, o_eff, o_callF, o_callN, o_guard, gk_tt, gk_ff, gk_tf, gk_ft, gk_u, t_op, t_alt, t_nil, o_nil, POp.ev, Opd.ev, EOp.ev, env0, gu, gv, setD, resV, List.set, List.map, List.map_nil, List.map_cons, Option.map_none, Option.map_some, Option.some.injEq, exists_eq_left', pickV, binV, convV, load1V, max2V, min2V, nilchkV, unV, boolEq, isNilV, fadV, extV, slenV, ne_eq, not_true_eq_false, if_false, if_true, ite_true, ite_false, Bool.false_eq_true, Bool.true_eq_false, beq_true, beq_false, beq_self_eq_true, Bool.not_true, Bool.not_false, reduceCtorEq, List.getElem?_toArray, List.getElem?_cons_zero, List.getElem?_cons_succ]
  refine Test.false_ (s_skip1 ?_)
  simp +decide only [p_seq_normal, p_seq_ret, p_seq_exit, p_block_normal, p_block_ret, p_block_exit, p_fin_ret, p_fin_normal, reduceIte, Nat.reduceEqDiff, resV, resOne, resL, gv, Option.some.injEq, exists_eq_left', Option.bind_some, Option.map_some, List.getD_cons_zero, List.getD_cons_succ]
  refine s_test ?_
  simp only [o_cont, o_callT, callV_fn, o_pure, o_eff, o_callF, o_callN, o_guard, gk_tt, gk_ff, gk_tf, gk_ft, gk_u, t_op, t_alt, t_nil, o_nil, POp.ev, Opd.ev, EOp.ev, env0, gu, gv, setD, resV, List.set, List.map, List.map_nil, List.map_cons, Option.map_none, Option.map_some, Option.some.injEq, exists_eq_left', pickV, binV, convV, load1V, max2V, min2V, nilchkV, unV, boolEq, isNilV, fadV, extV, slenV, ne_eq, not_true_eq_false, if_false, if_true, ite_true, ite_false, Bool.false_eq_true, Bool.true_eq_false, beq_true, beq_false, beq_self_eq_true, Bool.not_true, Bool.not_false, reduceCtorEq, List.getElem?_toArray, List.getElem?_cons_zero, List.getElem?_cons_succ, cell_blk hbp, cell_blk hbq, Nat.zero_add]
  obtain ⟨rfl, k1, k2⟩ := h2
  obtain ⟨rfl, l1, l2⟩ := h4
  refine (intactIntS_ok _ _ _ _ _ k2 l2 k1 l1 hn2).eq ?_
  simp only [o_cont, o_callT, callV_fn, o_pure, o_eff, o_callF, o_callN, o_guard, gk_tt, gk_ff, gk_tf, gk_ft, gk_u, t_op, t_alt, t_nil, o_nil, POp.ev, Opd.ev, EOp.ev, env0, gu, gv, setD, resV, List.set, List.map, List.map_nil, List.map_cons, Option.map_none, Option.map_some, Option.some.injEq, exists_eq_left', pickV, binV, convV, load1V, max2V, min2V, nilchkV, unV, boolEq, isNilV, fadV, extV, slenV, ne_eq, not_true_eq_false, if_false, if_true, ite_true, ite_false, Bool.false_eq_true, Bool.true_eq_false, beq_true, beq_false, beq_self_eq_true, Bool.not_true, Bool.not_false, reduceCtorEq, List.getElem?_toArray, List.getElem?_cons_zero, List.getElem?_cons_succ]
  refine Test.false_ (s_skip1 ?_)
  simp +decide only [p_seq_normal, p_seq_ret, p_seq_exit, p_block_normal, p_block_ret, p_block_exit, p_fin_ret, p_fin_normal, reduceIte, Nat.reduceEqDiff, resV, resOne, resL, gv, Option.some.injEq, exists_eq_left', Option.bind_some, Option.map_some, List.getD_cons_zero, List.getD_cons_succ]
  refine s_reg ?_
  simp only [o_cont, o_callT, callV_fn, o_pure, o_eff, o_callF, o_callN, o_guard, gk_tt, gk_ff, gk_tf, gk_ft, gk_u, t_op, t_alt, t_nil, o_nil, POp.ev, Opd.ev, EOp.ev, env0, gu, gv, setD, resV, List.set, List.map, List.map_nil, List.map_cons, Option.map_none, Option.map_some, Option.some.injEq, exists_eq_left', pickV, binV, convV, load1V, max2V, min2V, nilchkV, unV, boolEq, isNilV, fadV, extV, slenV, ne_eq, not_true_eq_false, if_false, if_true, ite_true, ite_false, Bool.false_eq_true, Bool.true_eq_false, beq_true, beq_false, beq_self_eq_true, Bool.not_true, Bool.not_false, reduceCtorEq, List.getElem?_toArray, List.getElem?_cons_zero, List.getElem?_cons_succ]
  refine s_ret1 ?_
  simp +decide only [p_seq_normal, p_seq_ret, p_seq_exit, p_block_normal, p_block_ret, p_block_exit, p_fin_ret, p_fin_normal, reduceIte, Nat.reduceEqDiff, resV, resOne, resL, gv, Option.some.injEq, exists_eq_left', Option.bind_some, Option.map_some, List.getD_cons_zero, List.getD_cons_succ]
  exact ⟨trivial, hx⟩

def CopyI (H : AHeap) (b : Nat) (v : Value) (l : List Int) (bare : Bool) : Prop := (bare = true ∧ l = [] ∧ v = .slice none 0 0) ∨ Laid H b v l
theorem CopyI.ext {H H' : AHeap} {b : Nat} {v : Value} {l : List Int} {bare : Bool} (h : CopyI H b v l bare) (hx : Ext H H') : CopyI H' b v l bare := h.imp id fun h => h.ext hx
theorem CopyI.put {H : AHeap} {b r : Nat} {v : Value} {l : List Int} {bare : Bool} (h : CopyI H b v l bare) (cs : List Value) (hb : b ≠ r) : CopyI (H.put r cs) b v l bare :=
  h.imp id fun h => ⟨h.1, h.2.1, by rw [put_ne _ _ hb]; exact h.2.2⟩
theorem CopyI.sl {H : AHeap} {b : Nat} {v : Value} {l : List Int} {bare : Bool} (h : CopyI H b v l bare) : SlI H v l := by
  rcases h with ⟨_, rfl, rfl⟩ | h
  · exact Sl.nil _ _
  · exact h.vec.sl
theorem toIntC_ok (lim : Nat) (s : Value) (l : List Int) (bare : Bool) (H : AHeap) (hl : lim ≤ H.next) (hs : SlI H s l) (hn : l.length ≤ 1000000) :
    ACalls Try.prog lim n_laws_toIntS [s, .bool bare] H fun v H' => CopyI H' H.next v l bare ∧ Ext H H' := by
  refine (toIntS_ok lim s l bare H hl hs hn).mono ?_
  intro v H' h
  by_cases h0 : bare = true ∧ l.length = 0
  · rw [if_pos h0] at h
    obtain ⟨rfl, rfl⟩ := h
    exact ⟨.inl ⟨h0.1, List.length_eq_zero_iff.1 h0.2, rfl⟩, Ext.refl _⟩
  · rw [if_neg h0] at h
    obtain ⟨rfl, rfl⟩ := h
    exact ⟨.inr ⟨rfl, Nat.lt_succ_self _, alloc_new _ _⟩, Ext.alloc _ _⟩

theorem toBox_ok (lim : Nat) (x : Value) (k : Int) (low high : List Int) (bare : Bool) (H : AHeap) (hl : lim ≤ H.next) (hv : BoxV H x k low high) (hn : low.length ≤ 1000000) (hn2 : high.length ≤ 1000000) :
    ACalls Try.prog lim n_laws_toBox [x, .bool bare] H fun v H' => ∃ s t b c, v = .agg #[.int .i64 k, s, t] ∧ H.next ≤ b ∧ H.next ≤ c ∧ (bare = false → b ≠ c) ∧ CopyI H' b s low bare ∧ CopyI H' c t high bare ∧ Ext H H' := by
  obtain ⟨s, t, rfl, hs, ht⟩ := hv
  refine is_laws_toBox.go rfl ?_
  unfold c_laws_toBox
  refine s_reg ?_
  simp only [o_cont, o_callT, callV_fn, o_pure, o_eff, o_callF, o_callN, o_guard, gk_tt, gk_ff, gk_tf, gk_ft, gk_u, t_op, t_alt, t_nil, o_nil, POp.ev, Opd.ev, EOp.ev, env0, gu, gv, setD, resV, List.set, List.map, List.map_nil, List.map_cons, Option.map_none, Option.map_some, Option.some.injEq, exists_eq_left', pickV, binV, convV, load1V, max2V, min2V, nilchkV, unV, boolEq, isNilV, fadV, extV, slenV, ne_eq, not_true_eq_false, if_false, if_true, ite_true, ite_false, Bool.false_eq_true, Bool.true_eq_false, beq_true, beq_false, beq_self_eq_true, Bool.not_true, Bool.not_false, reduceCtorEq, List.getElem?_toArray, List.getElem?_cons_zero, List.getElem?_cons_succ, boxH, cellsV]
  have hE := BxE.mk' (k := k) hs ht
  have hnx : (H.alloc [.int .i64 k, s, t]).next = H.next + 1 := rfl
  rw [hnx]
  generalize (H.alloc [.int .i64 k, s, t]).alloc [.int .i64 0, .slice none 0 0, .slice none 0 0] = H1 at hE ⊢
  generalize H.next + 1 = r at hE ⊢
  have hge := hE.ge
  have hlt := hE.lt
  refine s_reg ?_
  simp only [o_cont, o_callT, callV_fn, o_pure, o_eff, o_callF, o_callN, o_guard, gk_tt, gk_ff, gk_tf, gk_ft, gk_u, t_op, t_alt, t_nil, o_nil, POp.ev, Opd.ev, EOp.ev, env0, gu, gv, setD, resV, List.set, List.map, List.map_nil, List.map_cons, Option.map_none, Option.map_some, Option.some.injEq, exists_eq_left', pickV, binV, convV, load1V, max2V, min2V, nilchkV, unV, boolEq, isNilV, fadV, extV, slenV, ne_eq, not_true_eq_false, if_false, if_true, ite_true, ite_false, Bool.false_eq_true, Bool.true_eq_false, beq_true, beq_false, beq_self_eq_true, Bool.not_true, Bool.not_false, reduceCtorEq, List.getElem?_toArray, List.getElem?_cons_zero, List.getElem?_cons_succ]
  replace hE := hE.mono (Ext.alloc H1 [.int .i64 0, .slice none 0 0, .slice none 0 0])
  have ho : (H1.alloc [.int .i64 0, .slice none 0 0, .slice none 0 0]).blk H1.next = some [.int .i64 0, .slice none 0 0, .slice none 0 0] := alloc_new _ _
  have hon : H1.next < (H1.alloc [.int .i64 0, .slice none 0 0, .slice none 0 0]).next := Nat.lt_succ_self _
  generalize H1.alloc [.int .i64 0, .slice none 0 0, .slice none 0 0] = H2 at hE ho hon ⊢
  generalize H1.next = q at hlt ho hon ⊢
  have hp1 : storeH lim H2 1 (.pointer (some ⟨q, 0, none⟩)) (.int .i64 k) = some (undef, H2.put q [.int .i64 k, .slice none 0 0, .slice none 0 0]) := store_cell (cells_int .i64 k) (by omega) ho (by simp)
  refine s_reg ?_
  simp only [o_cont, o_callT, callV_fn, o_pure, o_eff, o_callF, o_callN, o_guard, gk_tt, gk_ff, gk_tf, gk_ft, gk_u, t_op, t_alt, t_nil, o_nil, POp.ev, Opd.ev, EOp.ev, env0, gu, gv, setD, resV, List.set, List.map, List.map_nil, List.map_cons, Option.map_none, Option.map_some, Option.some.injEq, exists_eq_left', pickV, binV, convV, load1V, max2V, min2V, nilchkV, unV, boolEq, isNilV, fadV, extV, slenV, ne_eq, not_true_eq_false, if_false, if_true, ite_true, ite_false, Bool.false_eq_true, Bool.true_eq_false, beq_true, beq_false, beq_self_eq_true, Bool.not_true, Bool.not_false, reduceCtorEq, List.getElem?_toArray, List.getElem?_cons_zero, List.getElem?_cons_succ, cell_blk hE.bp, Nat.zero_add, hp1]
  replace hE := hE.chg hs ht (Chg.put q H2 [.int .i64 k, .slice none 0 0, .slice none 0 0]) (by omega) (by omega) (by omega)
  have ho2 := put_same H2 q [.int .i64 k, .slice none 0 0, .slice none 0 0]
  have hon2 : q < (H2.put q [.int .i64 k, .slice none 0 0, .slice none 0 0]).next := hon
  generalize H2.put q [.int .i64 k, .slice none 0 0, .slice none 0 0] = H3 at hE ho2 hon2 ⊢
  have hl3 := hE.lt
  refine s_reg ?_
  simp only [o_cont, o_callT, callV_fn, o_pure, o_eff, o_callF, o_callN, o_guard, gk_tt, gk_ff, gk_tf, gk_ft, gk_u, t_op, t_alt, t_nil, o_nil, POp.ev, Opd.ev, EOp.ev, env0, gu, gv, setD, resV, List.set, List.map, List.map_nil, List.map_cons, Option.map_none, Option.map_some, Option.some.injEq, exists_eq_left', pickV, binV, convV, load1V, max2V, min2V, nilchkV, unV, boolEq, isNilV, fadV, extV, slenV, ne_eq, not_true_eq_false, if_false, if_true, ite_true, ite_false, Bool.false_eq_true, Bool.true_eq_false, beq_true, beq_false, beq_self_eq_true, Bool.not_true, Bool.not_false, reduceCtorEq, List.getElem?_toArray, List.getElem?_cons_zero, List.getElem?_cons_succ, cell_blk hE.bp, Nat.zero_add]
  refine (toIntC_ok lim _ _ bare _ (by omega) hE.sl hn).mono ?_
  rintro s1 H4 ⟨hc1, hx4⟩
  have hbc : bare = false → H3.next < H4.next := fun h => by
    rcases hc1 with ⟨h1, _⟩ | h1
    · rw [h] at h1; cases h1
    · exact h1.2.1
  replace hE := hE.mono hx4
  have hn4 := hx4.next
  have ho4 : H4.blk q = some [.int .i64 k, .slice none 0 0, .slice none 0 0] := by rw [hx4.blk _ hon2]; exact ho2
  have hp2 : storeH lim H4 1 (.pointer (some ⟨q, 1, none⟩)) s1 = some (undef, H4.put q [.int .i64 k, s1, .slice none 0 0]) := store_cell hc1.sl.cellsV (by omega) ho4 (by simp)
  simp only [o_cont, o_callT, callV_fn, o_pure, o_eff, o_callF, o_callN, o_guard, gk_tt, gk_ff, gk_tf, gk_ft, gk_u, t_op, t_alt, t_nil, o_nil, POp.ev, Opd.ev, EOp.ev, env0, gu, gv, setD, resV, List.set, List.map, List.map_nil, List.map_cons, Option.map_none, Option.map_some, Option.some.injEq, exists_eq_left', pickV, binV, convV, load1V, max2V, min2V, nilchkV, unV, boolEq, isNilV, fadV, extV, slenV, ne_eq, not_true_eq_false, if_false, if_true, ite_true, ite_false, Bool.false_eq_true, Bool.true_eq_false, beq_true, beq_false, beq_self_eq_true, Bool.not_true, Bool.not_false, reduceCtorEq, List.getElem?_toArray, List.getElem?_cons_zero, List.getElem?_cons_succ, Nat.zero_add, hp2]
  replace hc1 := hc1.put [.int .i64 k, s1, .slice none 0 0] (by omega : H3.next ≠ q)
  replace hE := hE.chg hs ht (Chg.put q H4 [.int .i64 k, s1, .slice none 0 0]) (by omega) (by omega) (by omega)
  have ho5 := put_same H4 q [.int .i64 k, s1, .slice none 0 0]
  have hon5 : q < (H4.put q [.int .i64 k, s1, .slice none 0 0]).next := Nat.lt_of_lt_of_le hon2 hn4
  have hn5 : (H4.put q [.int .i64 k, s1, .slice none 0 0]).next = H4.next := rfl
  generalize H4.put q [.int .i64 k, s1, .slice none 0 0] = H5 at hE hc1 ho5 hon5 hn5 ⊢
  refine s_reg ?_
  simp only [o_cont, o_callT, callV_fn, o_pure, o_eff, o_callF, o_callN, o_guard, gk_tt, gk_ff, gk_tf, gk_ft, gk_u, t_op, t_alt, t_nil, o_nil, POp.ev, Opd.ev, EOp.ev, env0, gu, gv, setD, resV, List.set, List.map, List.map_nil, List.map_cons, Option.map_none, Option.map_some, Option.some.injEq, exists_eq_left', pickV, binV, convV, load1V, max2V, min2V, nilchkV, unV, boolEq, isNilV, fadV, extV, slenV, ne_eq, not_true_eq_false, if_false, if_true, ite_true, ite_false, Bool.false_eq_true, Bool.true_eq_false, beq_true, beq_false, beq_self_eq_true, Bool.not_true, Bool.not_false, reduceCtorEq, List.getElem?_toArray, List.getElem?_cons_zero, List.getElem?_cons_succ, cell_blk hE.bp, Nat.zero_add]
  refine (toIntC_ok lim _ _ bare _ (by omega) hE.sh hn2).mono ?_
  rintro t1 H6 ⟨hc2, hx6⟩
  replace hE := hE.mono hx6
  replace hc1 := hc1.ext hx6
  have hn6 := hx6.next
  have ho6 : H6.blk q = some [.int .i64 k, s1, .slice none 0 0] := by rw [hx6.blk _ hon5]; exact ho5
  have hp3 : storeH lim H6 1 (.pointer (some ⟨q, 2, none⟩)) t1 = some (undef, H6.put q [.int .i64 k, s1, t1]) := store_cell hc2.sl.cellsV (by omega) ho6 (by simp)
  simp only [o_cont, o_callT, callV_fn, o_pure, o_eff, o_callF, o_callN, o_guard, gk_tt, gk_ff, gk_tf, gk_ft, gk_u, t_op, t_alt, t_nil, o_nil, POp.ev, Opd.ev, EOp.ev, env0, gu, gv, setD, resV, List.set, List.map, List.map_nil, List.map_cons, Option.map_none, Option.map_some, Option.some.injEq, exists_eq_left', pickV, binV, convV, load1V, max2V, min2V, nilchkV, unV, boolEq, isNilV, fadV, extV, slenV, ne_eq, not_true_eq_false, if_false, if_true, ite_true, ite_false, Bool.false_eq_true, Bool.true_eq_false, beq_true, beq_false, beq_self_eq_true, Bool.not_true, Bool.not_false, reduceCtorEq, List.getElem?_toArray, List.getElem?_cons_zero, List.getElem?_cons_succ, Nat.zero_add, hp3]
  replace hc1 := hc1.put [.int .i64 k, s1, t1] (by omega : H3.next ≠ q)
  replace hc2 := hc2.put [.int .i64 k, s1, t1] (by omega : H5.next ≠ q)
  replace hE := hE.chg hs ht (Chg.put q H6 [.int .i64 k, s1, t1]) (by omega) (by omega) (by omega)
  have ho7 := put_same H6 q [.int .i64 k, s1, t1]
  generalize H6.put q [.int .i64 k, s1, t1] = H7 at hE hc1 hc2 ho7 ⊢
  refine s_reg ?_
  simp only [o_cont, o_callT, callV_fn, o_pure, o_eff, o_callF, o_callN, o_guard, gk_tt, gk_ff, gk_tf, gk_ft, gk_u, t_op, t_alt, t_nil, o_nil, POp.ev, Opd.ev, EOp.ev, env0, gu, gv, setD, resV, List.set, List.map, List.map_nil, List.map_cons, Option.map_none, Option.map_some, Option.some.injEq, exists_eq_left', pickV, binV, convV, load1V, max2V, min2V, nilchkV, unV, boolEq, isNilV, fadV, extV, slenV, ne_eq, not_true_eq_false, if_false, if_true, ite_true, ite_false, Bool.false_eq_true, Bool.true_eq_false, beq_true, beq_false, beq_self_eq_true, Bool.not_true, Bool.not_false, reduceCtorEq, List.getElem?_toArray, List.getElem?_cons_zero, List.getElem?_cons_succ, load3 ho7, store3 (lim := lim) (b := r) (by omega) hE.br]
  refine s_ret1 ?_
  simp +decide only [p_seq_normal, p_seq_ret, p_seq_exit, p_block_normal, p_block_ret, p_block_exit, p_fin_ret, p_fin_normal, reduceIte, Nat.reduceEqDiff, resV, resOne, resL, gv, Option.some.injEq, exists_eq_left', Option.bind_some, Option.map_some, List.getD_cons_zero, List.getD_cons_succ, load3 (put_same _ _ _)]
  refine ⟨s1, t1, H3.next, H5.next, rfl, by omega, by omega, fun h => by have := hbc h; omega, hc1.put _ (by omega), hc2.put _ (by omega), Chg.ext hE.ext (Chg.put _ _ _) (by omega)⟩
/-- what a call's box is: zero where it is none -/
def pickB (ok : Bool) (r : Nat × List Int × List Int) : Int × List Int × List Int := if ok then (r.1, r.2.1, r.2.2) else (0, [], [])
theorem BoxR.boxO {lo : Nat} {H : AHeap} {v : Value} {ok : Bool} {r : Nat × List Int × List Int} (h : BoxR lo H v ok r.1 r.2.1 r.2.2) (hg : ok = true → 1 ≤ r.2.1.length ∧ 1 ≤ r.2.2.length) :
    ∃ x, v = .tuple #[x, .bool ok] ∧ BoxO H lo H.next x (pickB ok r).1 (pickB ok r).2.1 (pickB ok r).2.2 := by
  rcases h with ⟨rfl, rfl⟩ | ⟨rfl, s, t, b, c, rfl, h2, h3, h4, h5, h6⟩
  · exact ⟨_, rfl, _, _, rfl, .inl ⟨rfl, rfl, rfl, rfl⟩⟩
  · obtain ⟨g1, g2⟩ := hg rfl
    exact ⟨_, rfl, _, _, rfl, .inr ⟨b, c, h4, h2, (h5.blk (by omega)).elim fun _ h => h.2, h3, (h6.blk (by omega)).elim fun _ h => h.2, h5, h6⟩⟩
theorem makeB_len {k : Nat} {low high : List Int} (h : (makeB k low high).1 = true) : 1 ≤ (makeB k low high).2.2.1.length ∧ (makeB k low high).2.2.1.length ≤ 3 ∧ (makeB k low high).2.2.2.length = (makeB k low high).2.2.1.length := by
  have := goodB_small h
  simp only [makeB] at this ⊢
  omega
end Go.Proofs.Ytfnjjkljpegoeaa
