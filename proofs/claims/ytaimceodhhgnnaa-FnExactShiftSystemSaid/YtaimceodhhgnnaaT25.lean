/- Sorting of terms, part 1 of the walk of merging in place: ranges swapped and turned; no condition beyond stated lengths. -/
import Derived.Test.YtaimceodhhgnnaaT24
namespace Go.Proofs.Ytaimceodhhgnnaa
open Go.Ab
set_option linter.unusedSimpArgs false
set_option linter.unusedVariables false

theorem subN {i j : Nat} (h : j ≤ i) (hi : i < 9000000000000000000) : IntKind.i64.wrap ((i : Int) - (j : Int)) = ((i - j : Nat) : Int) := by rw [IntKind.wrap_i64]; omega
theorem sub1N {i : Nat} (h : 1 ≤ i) (hi : i < 9000000000000000000) : IntKind.i64.wrap ((i : Int) - 1) = ((i - 1 : Nat) : Int) := by rw [IntKind.wrap_i64]; omega

theorem get_mid {A B : List Tm} {x : Tm} {i : Nat} (h : i = A.length) (hlt : i < (A ++ x :: B).length) : (A ++ x :: B)[i]'hlt = x := by
  subst h
  rw [List.getElem_append_right (by omega)]
  simp
/-- two terms in each other's place -/
theorem VecT.swap2 {lim : Nat} {H : AHeap} {blk : Nat} {v : Value} {A B C : List Tm} {x y : Tm} (h : VecT H blk v (A ++ x :: (B ++ y :: C))) (hl : lim ≤ blk) :
    (iadV 4 v (.int .i64 (A.length : Nat)) = some (.pointer (some ⟨blk, A.length * 4, none⟩)) ∧ At H blk (A.length * 4) x) ∧
    (iadV 4 v (.int .i64 (A.length + 1 + B.length : Nat)) = some (.pointer (some ⟨blk, (A.length + 1 + B.length) * 4, none⟩)) ∧ At H blk ((A.length + 1 + B.length) * 4) y) ∧
    ∃ H1 H2, storeH lim H 4 (.pointer (some ⟨blk, A.length * 4, none⟩)) (tv y) = some (undef, H1) ∧ storeH lim H1 4 (.pointer (some ⟨blk, (A.length + 1 + B.length) * 4, none⟩)) (tv x) = some (undef, H2) ∧
      VecT H2 blk v (A ++ y :: (B ++ x :: C)) ∧ Chg blk H H2 ∧ H2.next = H.next := by
  have e : A ++ x :: (B ++ y :: C) = (A ++ x :: B) ++ y :: C := by simp
  have hlen : (A ++ x :: B).length = A.length + 1 + B.length := by simp; omega
  obtain ⟨j1, a1⟩ := VecT.at h (i := A.length) (by simp)
  rw [get_mid rfl] at a1
  obtain ⟨j2, a2⟩ := VecT.at (show VecT H blk v ((A ++ x :: B) ++ y :: C) by rw [← e]; exact h) (i := A.length + 1 + B.length) (by simp; omega)
  rw [get_mid hlen.symm] at a2
  obtain ⟨cs1, h1, g1⟩ := VecT.putT (lim := lim) h hl (i := A.length) (by simp) y
  have e1 : (A ++ x :: (B ++ y :: C)).set A.length y = (A ++ y :: B) ++ y :: C := by
    rw [List.set_append_right _ _ (by omega), Nat.sub_self]
    simp
  rw [e1] at g1
  obtain ⟨cs2, h2, g2⟩ := VecT.putT (lim := lim) g1 hl (i := A.length + 1 + B.length) (by simp; omega) x
  have hlen2 : (A ++ y :: B).length = A.length + 1 + B.length := by simp; omega
  have e2 : ((A ++ y :: B) ++ y :: C).set (A.length + 1 + B.length) x = A ++ y :: (B ++ x :: C) := by
    rw [List.set_append_right _ _ (by omega), ← hlen2, Nat.sub_self]
    simp
  rw [e2] at g2
  exact ⟨⟨j1, a1⟩, ⟨j2, a2⟩, _, _, h1, h2, g2, (Chg.put blk H cs1).trans (Chg.put blk _ cs2), rfl⟩

theorem swapRange_ok (lim : Nat) (s : Value) (blk : Nat) (A X M Y B : List Tm) (H : AHeap) (hs : VecT H blk s (A ++ X ++ M ++ Y ++ B)) (hl : lim ≤ blk) (hXY : Y.length = X.length) (hn : A.length + X.length + M.length + Y.length ≤ 100000) {a b n : Int}
    (ha : a = (A.length : Int)) (hb : b = ((A.length + X.length + M.length : Nat) : Int)) (hnn : n = (X.length : Int)) :
    ACalls Try.prog lim n_slices_swapRangeCmpFunc_impl_Term [s, .int .i64 a, .int .i64 b, .int .i64 n, cmpF] H fun v H' => VecT H' blk s (A ++ Y ++ M ++ X ++ B) ∧ Chg blk H H' := by
  subst ha hb hnn
  refine is_slices_swapRangeCmpFunc_impl_Term.go rfl ?_
  unfold c_slices_swapRangeCmpFunc_impl_Term
  refine s_reg ?_
  simp only [o_cont, o_callT, callV_fn, o_pure, o_eff, o_callF, o_callN, o_guard, gk_tt, gk_ff, gk_tf, gk_ft, gk_u, t_op, t_alt, t_nil, o_nil, POp.ev, Opd.ev, EOp.ev, env0, gu, gv, setD, resV, List.set, List.map, List.map_nil, List.map_cons, Option.map_none, Option.map_some, Option.some.injEq, exists_eq_left', pickV, binV, convV, load1V, max2V, min2V, nilchkV, unV, boolEq, isNilV, fadV, extV, slenV, ne_eq, not_true_eq_false, if_false, if_true, ite_true, ite_false, Bool.false_eq_true, Bool.true_eq_false, beq_true, beq_false, beq_self_eq_true, Bool.not_true, Bool.not_false, reduceCtorEq, List.getElem?_toArray, List.getElem?_cons_zero, List.getElem?_cons_succ]
  refine s_block1 ?_
  refine s_loop1 (fun k e' H' => ∃ (X1 X2 Y1 Y2 : List Tm), X = X1 ++ X2 ∧ Y = Y1 ++ Y2 ∧ Y1.length = X1.length ∧ X2.length = k ∧ VecT H' blk s (A ++ Y1 ++ X2 ++ M ++ X1 ++ Y2 ++ B) ∧ Chg blk H H' ∧
    e' = [s, .int .i64 A.length, .int .i64 ((A.length + X.length + M.length : Nat) : Int), .int .i64 X.length, .int .i64 X1.length]) X.length ⟨[], X, [], Y, rfl, rfl, rfl, rfl, by simpa using hs, Chg.refl _ _, rfl⟩ ?_
  rintro k e' H' ⟨X1, X2, Y1, Y2, rfl, rfl, hl1, hk, hv, hc, rfl⟩
  have hl2 : Y2.length = X2.length := by simp at hXY; omega
  simp only [List.length_append] at hn
  refine s_test ?_
  simp only [o_cont, o_callT, callV_fn, o_pure, o_eff, o_callF, o_callN, o_guard, gk_tt, gk_ff, gk_tf, gk_ft, gk_u, t_op, t_alt, t_nil, o_nil, POp.ev, Opd.ev, EOp.ev, env0, gu, gv, setD, resV, List.set, List.map, List.map_nil, List.map_cons, Option.map_none, Option.map_some, Option.some.injEq, exists_eq_left', pickV, binV, convV, load1V, max2V, min2V, nilchkV, unV, boolEq, isNilV, fadV, extV, slenV, ne_eq, not_true_eq_false, if_false, if_true, ite_true, ite_false, Bool.false_eq_true, Bool.true_eq_false, beq_true, beq_false, beq_self_eq_true, Bool.not_true, Bool.not_false, reduceCtorEq, List.getElem?_toArray, List.getElem?_cons_zero, List.getElem?_cons_succ]
  refine Test.split (fun hlt => ?_) (fun hlt => ?_)
  · have hlt' : X1.length < (X1 ++ X2).length := by simp at hlt ⊢; omega
    obtain ⟨x, X3, rfl⟩ : ∃ x X3, X2 = x :: X3 := by
      cases X2 with
      | nil => simp at hlt'
      | cons x X3 => exact ⟨x, X3, rfl⟩
    obtain ⟨y, Y3, rfl⟩ : ∃ y Y3, Y2 = y :: Y3 := by
      cases Y2 with
      | nil => simp at hl2
      | cons y Y3 => exact ⟨y, Y3, rfl⟩
    simp only [List.length_cons] at hk hl2 hn
    have e1 : A ++ Y1 ++ x :: X3 ++ M ++ X1 ++ y :: Y3 ++ B = (A ++ Y1) ++ x :: ((X3 ++ M ++ X1) ++ y :: (Y3 ++ B)) := by simp
    rw [e1] at hv
    obtain ⟨⟨j1, a1⟩, ⟨j2, a2⟩, H1, H2, t1, t2, hv2, hc2, hn2⟩ := VecT.swap2 (lim := lim) hv hl
    have i1 : (A ++ Y1).length = A.length + X1.length := by simp; omega
    have i2 : A.length + X1.length + 1 + (X3 ++ M ++ X1).length = A.length + (X1 ++ x :: X3).length + M.length + X1.length := by simp; omega
    rw [i1] at j1 a1 t1 j2 a2 t2
    rw [i2] at j2 a2 t2
    have w1 := addN (i := A.length) (j := X1.length) (by omega)
    have w2 := addN (i := A.length + (X1 ++ x :: X3).length + M.length) (j := X1.length) (by simp; omega)
    refine s_skip1 ?_
    simp +decide only [p_seq_normal, p_seq_ret, p_seq_exit, p_block_normal, p_block_ret, p_block_exit, p_fin_ret, p_fin_normal, reduceIte, Nat.reduceEqDiff, resV, resOne, resL, gv, Option.some.injEq, exists_eq_left', Option.bind_some, Option.map_some, List.getD_cons_zero, List.getD_cons_succ]
    refine s_block ?_
    refine s_reg1 ?_
    simp only [o_cont, o_callT, callV_fn, o_pure, o_eff, o_callF, o_callN, o_guard, gk_tt, gk_ff, gk_tf, gk_ft, gk_u, t_op, t_alt, t_nil, o_nil, POp.ev, Opd.ev, EOp.ev, env0, gu, gv, setD, resV, List.set, List.map, List.map_nil, List.map_cons, Option.map_none, Option.map_some, Option.some.injEq, exists_eq_left', pickV, binV, convV, load1V, max2V, min2V, nilchkV, unV, boolEq, isNilV, fadV, extV, slenV, ne_eq, not_true_eq_false, if_false, if_true, ite_true, ite_false, Bool.false_eq_true, Bool.true_eq_false, beq_true, beq_false, beq_self_eq_true, Bool.not_true, Bool.not_false, reduceCtorEq, List.getElem?_toArray, List.getElem?_cons_zero, List.getElem?_cons_succ, w1, w2, j1, a1.all, j2, a2.all, t1, t2]
    simp +decide only [p_seq_normal, p_seq_ret, p_seq_exit, p_block_normal, p_block_ret, p_block_exit, p_fin_ret, p_fin_normal, reduceIte, Nat.reduceEqDiff, resV, resOne, resL, gv, Option.some.injEq, exists_eq_left', Option.bind_some, Option.map_some, List.getD_cons_zero, List.getD_cons_succ]
    refine s_reg1 ?_
    simp only [o_cont, o_callT, callV_fn, o_pure, o_eff, o_callF, o_callN, o_guard, gk_tt, gk_ff, gk_tf, gk_ft, gk_u, t_op, t_alt, t_nil, o_nil, POp.ev, Opd.ev, EOp.ev, env0, gu, gv, setD, resV, List.set, List.map, List.map_nil, List.map_cons, Option.map_none, Option.map_some, Option.some.injEq, exists_eq_left', pickV, binV, convV, load1V, max2V, min2V, nilchkV, unV, boolEq, isNilV, fadV, extV, slenV, ne_eq, not_true_eq_false, if_false, if_true, ite_true, ite_false, Bool.false_eq_true, Bool.true_eq_false, beq_true, beq_false, beq_self_eq_true, Bool.not_true, Bool.not_false, reduceCtorEq, List.getElem?_toArray, List.getElem?_cons_zero, List.getElem?_cons_succ, add1 (i := X1.length) (by omega)]
    simp +decide only [p_seq_normal, p_seq_ret, p_seq_exit, p_block_normal, p_block_ret, p_block_exit, p_fin_ret, p_fin_normal, reduceIte, Nat.reduceEqDiff, resV, resOne, resL, gv, Option.some.injEq, exists_eq_left', Option.bind_some, Option.map_some, List.getD_cons_zero, List.getD_cons_succ]
    refine Round.mk (k - 1) (by omega) ⟨X1 ++ [x], X3, Y1 ++ [y], Y3, by simp, by simp, by simp; omega, by omega, ?_, hc.trans hc2, by simp⟩
    have e2 : A ++ (Y1 ++ [y]) ++ X3 ++ M ++ (X1 ++ [x]) ++ Y3 ++ B = (A ++ Y1) ++ y :: ((X3 ++ M ++ X1) ++ x :: (Y3 ++ B)) := by simp
    rw [e2]
    exact hv2
  · have hge : X2.length = 0 := by simp at hlt; omega
    have h2 : X2 = [] := List.length_eq_zero_iff.1 hge
    subst h2
    have h3 : Y2 = [] := List.length_eq_zero_iff.1 (by simpa using hl2)
    subst h3
    refine s_exit1 ?_
    simp +decide only [p_seq_normal, p_seq_ret, p_seq_exit, p_block_normal, p_block_ret, p_block_exit, p_fin_ret, p_fin_normal, reduceIte, Nat.reduceEqDiff, resV, resOne, resL, gv, Option.some.injEq, exists_eq_left', Option.bind_some, Option.map_some, List.getD_cons_zero, List.getD_cons_succ]
    exact ⟨by simpa using hv, hc⟩

theorem rotate_ok (lim : Nat) (s : Value) (blk : Nat) (A U V B : List Tm) (H : AHeap) (hs : VecT H blk s (A ++ U ++ V ++ B)) (hl : lim ≤ blk) (hn : A.length + U.length + V.length ≤ 100000) (hU : U ≠ []) (hV : V ≠ []) {a m b : Int}
    (ha : a = (A.length : Int)) (hm : m = ((A.length + U.length : Nat) : Int)) (hb : b = ((A.length + U.length + V.length : Nat) : Int)) :
    ACalls Try.prog lim n_slices_rotateCmpFunc_impl_Term [s, .int .i64 a, .int .i64 m, .int .i64 b, cmpF] H fun v H' => VecT H' blk s (A ++ V ++ U ++ B) ∧ Chg blk H H' := by
  subst ha hm hb
  refine is_slices_rotateCmpFunc_impl_Term.go rfl ?_
  unfold c_slices_rotateCmpFunc_impl_Term
  have w0 : IntKind.i64.wrap (((A.length + U.length : Nat) : Int) - (A.length : Int)) = (U.length : Int) := by rw [subN (by omega) (by omega)]; omega
  have w1 : IntKind.i64.wrap (((A.length + U.length + V.length : Nat) : Int) - ((A.length + U.length : Nat) : Int)) = (V.length : Int) := by rw [subN (by omega) (by omega)]; omega
  refine s_reg ?_
  simp only [o_cont, o_callT, callV_fn, o_pure, o_eff, o_callF, o_callN, o_guard, gk_tt, gk_ff, gk_tf, gk_ft, gk_u, t_op, t_alt, t_nil, o_nil, POp.ev, Opd.ev, EOp.ev, env0, gu, gv, setD, resV, List.set, List.map, List.map_nil, List.map_cons, Option.map_none, Option.map_some, Option.some.injEq, exists_eq_left', pickV, binV, convV, load1V, max2V, min2V, nilchkV, unV, boolEq, isNilV, fadV, extV, slenV, ne_eq, not_true_eq_false, if_false, if_true, ite_true, ite_false, Bool.false_eq_true, Bool.true_eq_false, beq_true, beq_false, beq_self_eq_true, Bool.not_true, Bool.not_false, reduceCtorEq, List.getElem?_toArray, List.getElem?_cons_zero, List.getElem?_cons_succ, w0]
  refine s_reg ?_
  simp only [o_cont, o_callT, callV_fn, o_pure, o_eff, o_callF, o_callN, o_guard, gk_tt, gk_ff, gk_tf, gk_ft, gk_u, t_op, t_alt, t_nil, o_nil, POp.ev, Opd.ev, EOp.ev, env0, gu, gv, setD, resV, List.set, List.map, List.map_nil, List.map_cons, Option.map_none, Option.map_some, Option.some.injEq, exists_eq_left', pickV, binV, convV, load1V, max2V, min2V, nilchkV, unV, boolEq, isNilV, fadV, extV, slenV, ne_eq, not_true_eq_false, if_false, if_true, ite_true, ite_false, Bool.false_eq_true, Bool.true_eq_false, beq_true, beq_false, beq_self_eq_true, Bool.not_true, Bool.not_false, reduceCtorEq, List.getElem?_toArray, List.getElem?_cons_zero, List.getElem?_cons_succ, w1]
  refine s_block ?_
  refine s_loop1 (fun k e' H' => ∃ (A' U' V' B' : List Tm), A' ++ V' ++ U' ++ B' = A ++ V ++ U ++ B ∧ A'.length + U'.length = A.length + U.length ∧ A'.length + U'.length + V'.length ≤ 100000 ∧ U' ≠ [] ∧ V' ≠ [] ∧ U'.length + V'.length = k ∧ VecT H' blk s (A' ++ U' ++ V' ++ B') ∧ Chg blk H H' ∧
    e' = [s, .int .i64 A.length, .int .i64 ((A.length + U.length : Nat) : Int), .int .i64 ((A.length + U.length + V.length : Nat) : Int), cmpF, .int .i64 U'.length, .int .i64 V'.length]) (U.length + V.length) ⟨A, U, V, B, rfl, rfl, by omega, hU, hV, rfl, hs, Chg.refl _ _, rfl⟩ ?_
  rintro k e' H' ⟨A', U', V', B', heq, hpos, hn', hU', hV', hk, hv, hc, rfl⟩
  have hu0 : 0 < U'.length := List.length_pos_iff.2 hU'
  have hv0 : 0 < V'.length := List.length_pos_iff.2 hV'
  have wA : IntKind.i64.wrap (((A.length + U.length : Nat) : Int) - (U'.length : Int)) = (A'.length : Int) := by rw [subN (by omega) (by omega)]; omega
  refine s_test ?_
  simp only [o_cont, o_callT, callV_fn, o_pure, o_eff, o_callF, o_callN, o_guard, gk_tt, gk_ff, gk_tf, gk_ft, gk_u, t_op, t_alt, t_nil, o_nil, POp.ev, Opd.ev, EOp.ev, env0, gu, gv, setD, resV, List.set, List.map, List.map_nil, List.map_cons, Option.map_none, Option.map_some, Option.some.injEq, exists_eq_left', pickV, binV, convV, load1V, max2V, min2V, nilchkV, unV, boolEq, isNilV, fadV, extV, slenV, ne_eq, not_true_eq_false, if_false, if_true, ite_true, ite_false, Bool.false_eq_true, Bool.true_eq_false, beq_true, beq_false, beq_self_eq_true, Bool.not_true, Bool.not_false, reduceCtorEq, List.getElem?_toArray, List.getElem?_cons_zero, List.getElem?_cons_succ]
  refine Test.split (fun hne => ?_) (fun hne => ?_)
  · have hne' : U'.length ≠ V'.length := by simp at hne; omega
    refine s_skip1 ?_
    simp +decide only [p_seq_normal, p_seq_ret, p_seq_exit, p_block_normal, p_block_ret, p_block_exit, p_fin_ret, p_fin_normal, reduceIte, Nat.reduceEqDiff, resV, resOne, resL, gv, Option.some.injEq, exists_eq_left', Option.bind_some, Option.map_some, List.getD_cons_zero, List.getD_cons_succ]
    refine s_block1 ?_
    refine s_test1 ?_
    simp only [o_cont, o_callT, callV_fn, o_pure, o_eff, o_callF, o_callN, o_guard, gk_tt, gk_ff, gk_tf, gk_ft, gk_u, t_op, t_alt, t_nil, o_nil, POp.ev, Opd.ev, EOp.ev, env0, gu, gv, setD, resV, List.set, List.map, List.map_nil, List.map_cons, Option.map_none, Option.map_some, Option.some.injEq, exists_eq_left', pickV, binV, convV, load1V, max2V, min2V, nilchkV, unV, boolEq, isNilV, fadV, extV, slenV, ne_eq, not_true_eq_false, if_false, if_true, ite_true, ite_false, Bool.false_eq_true, Bool.true_eq_false, beq_true, beq_false, beq_self_eq_true, Bool.not_true, Bool.not_false, reduceCtorEq, List.getElem?_toArray, List.getElem?_cons_zero, List.getElem?_cons_succ]
    refine Test.split (fun hgt => ?_) (fun hgt => ?_)
    · have hgt' : V'.length < U'.length := by simp at hgt; omega
      obtain ⟨U1, U2, rfl, hU1⟩ : ∃ U1 U2, U' = U1 ++ U2 ∧ U1.length = V'.length := ⟨U'.take V'.length, U'.drop V'.length, (List.take_append_drop _ _).symm, by simp; omega⟩
      refine s_reg ?_
      simp only [o_cont, o_callT, callV_fn, o_pure, o_eff, o_callF, o_callN, o_guard, gk_tt, gk_ff, gk_tf, gk_ft, gk_u, t_op, t_alt, t_nil, o_nil, POp.ev, Opd.ev, EOp.ev, env0, gu, gv, setD, resV, List.set, List.map, List.map_nil, List.map_cons, Option.map_none, Option.map_some, Option.some.injEq, exists_eq_left', pickV, binV, convV, load1V, max2V, min2V, nilchkV, unV, boolEq, isNilV, fadV, extV, slenV, ne_eq, not_true_eq_false, if_false, if_true, ite_true, ite_false, Bool.false_eq_true, Bool.true_eq_false, beq_true, beq_false, beq_self_eq_true, Bool.not_true, Bool.not_false, reduceCtorEq, List.getElem?_toArray, List.getElem?_cons_zero, List.getElem?_cons_succ, wA]
      simp only [List.length_append] at hn' hpos hk hgt'
      have hcall := swapRange_ok lim s blk A' U1 U2 V' B' H' (by simpa using hv) hl (by omega) (by omega) (a := A'.length) (b := ((A.length + U.length : Nat) : Int)) (n := (V'.length : Int)) rfl (by omega) (by omega)
      refine hcall.mono ?_
      rintro _ H2 ⟨hv2, hc2⟩
      simp only [o_cont, o_callT, callV_fn, o_pure, o_eff, o_callF, o_callN, o_guard, gk_tt, gk_ff, gk_tf, gk_ft, gk_u, t_op, t_alt, t_nil, o_nil, POp.ev, Opd.ev, EOp.ev, env0, gu, gv, setD, resV, List.set, List.map, List.map_nil, List.map_cons, Option.map_none, Option.map_some, Option.some.injEq, exists_eq_left', pickV, binV, convV, load1V, max2V, min2V, nilchkV, unV, boolEq, isNilV, fadV, extV, slenV, ne_eq, not_true_eq_false, if_false, if_true, ite_true, ite_false, Bool.false_eq_true, Bool.true_eq_false, beq_true, beq_false, beq_self_eq_true, Bool.not_true, Bool.not_false, reduceCtorEq, List.getElem?_toArray, List.getElem?_cons_zero, List.getElem?_cons_succ]
      refine s_reg1 ?_
      have w2 : IntKind.i64.wrap (((U1 ++ U2).length : Int) - (V'.length : Int)) = (U2.length : Int) := by rw [subN (by simp; omega) (by simp; omega)]; simp; omega
      simp only [o_cont, o_callT, callV_fn, o_pure, o_eff, o_callF, o_callN, o_guard, gk_tt, gk_ff, gk_tf, gk_ft, gk_u, t_op, t_alt, t_nil, o_nil, POp.ev, Opd.ev, EOp.ev, env0, gu, gv, setD, resV, List.set, List.map, List.map_nil, List.map_cons, Option.map_none, Option.map_some, Option.some.injEq, exists_eq_left', pickV, binV, convV, load1V, max2V, min2V, nilchkV, unV, boolEq, isNilV, fadV, extV, slenV, ne_eq, not_true_eq_false, if_false, if_true, ite_true, ite_false, Bool.false_eq_true, Bool.true_eq_false, beq_true, beq_false, beq_self_eq_true, Bool.not_true, Bool.not_false, reduceCtorEq, List.getElem?_toArray, List.getElem?_cons_zero, List.getElem?_cons_succ, w2]
      simp +decide only [p_seq_normal, p_seq_ret, p_seq_exit, p_block_normal, p_block_ret, p_block_exit, p_fin_ret, p_fin_normal, reduceIte, Nat.reduceEqDiff, resV, resOne, resL, gv, Option.some.injEq, exists_eq_left', Option.bind_some, Option.map_some, List.getD_cons_zero, List.getD_cons_succ]
      refine Round.mk (U2.length + U1.length) (by omega) ⟨A' ++ V', U2, U1, B', ?_, by simp; omega, by simp; omega, ?_, ?_, rfl, by simpa using hv2, hc.trans hc2, by rw [hU1]⟩
      · rw [← heq]; simp
      · intro h; rw [h] at hgt'; simp at hgt'; omega
      · intro h; rw [h] at hU1; simp at hU1; omega
    · have hgt' : U'.length < V'.length := by simp at hgt; omega
      obtain ⟨V1, V2, rfl, hV1⟩ : ∃ V1 V2, V' = V1 ++ V2 ∧ V2.length = U'.length := ⟨V'.take (V'.length - U'.length), V'.drop (V'.length - U'.length), (List.take_append_drop _ _).symm, by simp; omega⟩
      simp only [List.length_append] at hn' hpos hk hgt'
      have w2 : IntKind.i64.wrap (((A.length + U.length : Nat) : Int) + ((V1 ++ V2).length : Int)) = ((A.length + U.length + (V1 ++ V2).length : Nat) : Int) := addN (by simp; omega)
      have w3 : IntKind.i64.wrap (((A.length + U.length + (V1 ++ V2).length : Nat) : Int) - (U'.length : Int)) = ((A'.length + U'.length + V1.length : Nat) : Int) := by rw [subN (by omega) (by simp; omega)]; simp; omega
      refine s_reg ?_
      simp only [o_cont, o_callT, callV_fn, o_pure, o_eff, o_callF, o_callN, o_guard, gk_tt, gk_ff, gk_tf, gk_ft, gk_u, t_op, t_alt, t_nil, o_nil, POp.ev, Opd.ev, EOp.ev, env0, gu, gv, setD, resV, List.set, List.map, List.map_nil, List.map_cons, Option.map_none, Option.map_some, Option.some.injEq, exists_eq_left', pickV, binV, convV, load1V, max2V, min2V, nilchkV, unV, boolEq, isNilV, fadV, extV, slenV, ne_eq, not_true_eq_false, if_false, if_true, ite_true, ite_false, Bool.false_eq_true, Bool.true_eq_false, beq_true, beq_false, beq_self_eq_true, Bool.not_true, Bool.not_false, reduceCtorEq, List.getElem?_toArray, List.getElem?_cons_zero, List.getElem?_cons_succ, wA, w2, w3]
      have hcall := swapRange_ok lim s blk A' U' V1 V2 B' H' (by simpa using hv) hl (by omega) (by omega) (a := A'.length) (b := ((A'.length + U'.length + V1.length : Nat) : Int)) (n := (U'.length : Int)) rfl rfl rfl
      refine hcall.mono ?_
      rintro _ H2 ⟨hv2, hc2⟩
      simp only [o_cont, o_callT, callV_fn, o_pure, o_eff, o_callF, o_callN, o_guard, gk_tt, gk_ff, gk_tf, gk_ft, gk_u, t_op, t_alt, t_nil, o_nil, POp.ev, Opd.ev, EOp.ev, env0, gu, gv, setD, resV, List.set, List.map, List.map_nil, List.map_cons, Option.map_none, Option.map_some, Option.some.injEq, exists_eq_left', pickV, binV, convV, load1V, max2V, min2V, nilchkV, unV, boolEq, isNilV, fadV, extV, slenV, ne_eq, not_true_eq_false, if_false, if_true, ite_true, ite_false, Bool.false_eq_true, Bool.true_eq_false, beq_true, beq_false, beq_self_eq_true, Bool.not_true, Bool.not_false, reduceCtorEq, List.getElem?_toArray, List.getElem?_cons_zero, List.getElem?_cons_succ]
      refine s_reg1 ?_
      have w4 : IntKind.i64.wrap (((V1 ++ V2).length : Int) - (U'.length : Int)) = (V1.length : Int) := by rw [subN (by simp; omega) (by simp; omega)]; simp; omega
      simp only [o_cont, o_callT, callV_fn, o_pure, o_eff, o_callF, o_callN, o_guard, gk_tt, gk_ff, gk_tf, gk_ft, gk_u, t_op, t_alt, t_nil, o_nil, POp.ev, Opd.ev, EOp.ev, env0, gu, gv, setD, resV, List.set, List.map, List.map_nil, List.map_cons, Option.map_none, Option.map_some, Option.some.injEq, exists_eq_left', pickV, binV, convV, load1V, max2V, min2V, nilchkV, unV, boolEq, isNilV, fadV, extV, slenV, ne_eq, not_true_eq_false, if_false, if_true, ite_true, ite_false, Bool.false_eq_true, Bool.true_eq_false, beq_true, beq_false, beq_self_eq_true, Bool.not_true, Bool.not_false, reduceCtorEq, List.getElem?_toArray, List.getElem?_cons_zero, List.getElem?_cons_succ, w4]
      simp +decide only [p_seq_normal, p_seq_ret, p_seq_exit, p_block_normal, p_block_ret, p_block_exit, p_fin_ret, p_fin_normal, reduceIte, Nat.reduceEqDiff, resV, resOne, resL, gv, Option.some.injEq, exists_eq_left', Option.bind_some, Option.map_some, List.getD_cons_zero, List.getD_cons_succ]
      refine Round.mk (V2.length + V1.length) (by omega) ⟨A', V2, V1, U' ++ B', ?_, by omega, by omega, ?_, ?_, rfl, by simpa using hv2, hc.trans hc2, by rw [hV1]⟩
      · rw [← heq]; simp
      · intro h; rw [h] at hV1; simp at hV1; omega
      · intro h; rw [h] at hgt'; simp at hgt'; omega
  · have heq' : U'.length = V'.length := by simp at hne; omega
    refine s_exit1 ?_
    simp +decide only [p_seq_normal, p_seq_ret, p_seq_exit, p_block_normal, p_block_ret, p_block_exit, p_fin_ret, p_fin_normal, reduceIte, Nat.reduceEqDiff, resV, resOne, resL, gv, Option.some.injEq, exists_eq_left', Option.bind_some, Option.map_some, List.getD_cons_zero, List.getD_cons_succ]
    refine s_reg1 ?_
    simp only [o_cont, o_callT, callV_fn, o_pure, o_eff, o_callF, o_callN, o_guard, gk_tt, gk_ff, gk_tf, gk_ft, gk_u, t_op, t_alt, t_nil, o_nil, POp.ev, Opd.ev, EOp.ev, env0, gu, gv, setD, resV, List.set, List.map, List.map_nil, List.map_cons, Option.map_none, Option.map_some, Option.some.injEq, exists_eq_left', pickV, binV, convV, load1V, max2V, min2V, nilchkV, unV, boolEq, isNilV, fadV, extV, slenV, ne_eq, not_true_eq_false, if_false, if_true, ite_true, ite_false, Bool.false_eq_true, Bool.true_eq_false, beq_true, beq_false, beq_self_eq_true, Bool.not_true, Bool.not_false, reduceCtorEq, List.getElem?_toArray, List.getElem?_cons_zero, List.getElem?_cons_succ, wA]
    have hcall := swapRange_ok lim s blk A' U' [] V' B' H' (by simpa using hv) hl (by omega) (by simp; omega) (a := A'.length) (b := ((A.length + U.length : Nat) : Int)) (n := (U'.length : Int)) rfl (by simp; omega) rfl
    refine hcall.mono ?_
    rintro _ H2 ⟨hv2, hc2⟩
    simp only [o_cont, o_callT, callV_fn, o_pure, o_eff, o_callF, o_callN, o_guard, gk_tt, gk_ff, gk_tf, gk_ft, gk_u, t_op, t_alt, t_nil, o_nil, POp.ev, Opd.ev, EOp.ev, env0, gu, gv, setD, resV, List.set, List.map, List.map_nil, List.map_cons, Option.map_none, Option.map_some, Option.some.injEq, exists_eq_left', pickV, binV, convV, load1V, max2V, min2V, nilchkV, unV, boolEq, isNilV, fadV, extV, slenV, ne_eq, not_true_eq_false, if_false, if_true, ite_true, ite_false, Bool.false_eq_true, Bool.true_eq_false, beq_true, beq_false, beq_self_eq_true, Bool.not_true, Bool.not_false, reduceCtorEq, List.getElem?_toArray, List.getElem?_cons_zero, List.getElem?_cons_succ]
    simp +decide only [p_seq_normal, p_seq_ret, p_seq_exit, p_block_normal, p_block_ret, p_block_exit, p_fin_ret, p_fin_normal, reduceIte, Nat.reduceEqDiff, resV, resOne, resL, gv, Option.some.injEq, exists_eq_left', Option.bind_some, Option.map_some, List.getD_cons_zero, List.getD_cons_succ]
    rw [← heq]
    exact ⟨by simpa using hv2, hc.trans hc2⟩
end Go.Proofs.Ytaimceodhhgnnaa
