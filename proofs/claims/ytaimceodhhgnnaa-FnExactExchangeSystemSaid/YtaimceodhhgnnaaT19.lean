/- Systems of polynomials, part 19 of the walk: the specification's exchange of unknowns in a polynomial; no condition beyond stated lengths. -/
import Derived.Test.YtaimceodhhgnnaaT18
namespace Go.Proofs.Ytaimceodhhgnnaa
open Go.Ab
set_option linter.unusedSimpArgs false
set_option linter.unusedVariables false

theorem BoxT.putf {lim : Nat} {Hb H : AHeap} {q : Nat} {t : Tm} (h : BoxT Hb H q t) (hl : lim ≤ q) (c : Int) {j : Nat} (hj : j < 4) : ∃ cs, storeH lim H 1 (.pointer (some ⟨q, j, none⟩)) (.int .i64 c) = some (undef, H.put q cs) ∧ BoxT Hb (H.put q cs) q (t.upd j c) := by
  refine ⟨_, store_int .i64 c hl h.blk (by simpa [tc] using hj), Chg.ext h.ext (Chg.put _ _ _) h.ge, h.ge, h.lt, ?_⟩
  rw [put_same]
  match j, hj with
  | 0, _ => rfl
  | 1, _ => rfl
  | 2, _ => rfl
  | 3, _ => rfl
theorem BoxT.putall {lim : Nat} {Hb H : AHeap} {q : Nat} {t : Tm} (h : BoxT Hb H q t) (hl : lim ≤ q) (u : Tm) : storeH lim H 4 (.pointer (some ⟨q, 0, none⟩)) (tv u) = some (undef, H.put q (tc u)) ∧ BoxT Hb (H.put q (tc u)) q u :=
  ⟨store4 hl h.blk, Chg.ext h.ext (Chg.put _ _ _) h.ge, h.ge, h.lt, put_same _ _ _⟩
theorem BoxT.other {Hb H : AHeap} {q r : Nat} {t : Tm} {cs : List Value} (h : BoxT Hb H q t) (hr : Hb.next ≤ r) (hne : q ≠ r) : BoxT Hb (H.put r cs) q t :=
  ⟨Chg.ext h.ext (Chg.put _ _ _) hr, h.ge, h.lt, by rw [put_ne _ _ hne]; exact h.blk⟩
theorem BoxT.base {Hb Hb' H : AHeap} {q : Nat} {t : Tm} (h : BoxT Hb H q t) (hx : Ext Hb' Hb) : BoxT Hb' H q t :=
  ⟨hx.trans h.ext, Nat.le_trans hx.next h.ge, h.lt, h.blk⟩

def wi (t : Tm) (k n : Int) : Tm := if k = 0 then { t with x := n } else if k = 1 then { t with y := n } else { t with z := n }
theorem poWith_ok (lim : Nat) (t : Tm) (k n : Int) (H : AHeap) (hl : lim ≤ H.next) : ACalls Try.prog lim n_spec_poWith [tv t, .int .i64 k, .int .i64 n] H fun v H' => v = tv (wi t k n) ∧ Ext H H' := by
  refine is_spec_poWith.go rfl ?_
  unfold c_spec_poWith
  refine s_reg ?_
  simp only [o_cont, o_callT, callV_fn, o_pure, o_eff, o_callF, o_callN, o_guard, gk_tt, gk_ff, gk_tf, gk_ft, gk_u, t_op, t_alt, t_nil, o_nil, POp.ev, Opd.ev, EOp.ev, env0, gu, gv, setD, resV, List.set, List.map, List.map_nil, List.map_cons, Option.map_none, Option.map_some, Option.some.injEq, exists_eq_left', pickV, binV, convV, load1V, max2V, min2V, nilchkV, unV, boolEq, isNilV, fadV, extV, slenV, ne_eq, not_true_eq_false, if_false, if_true, ite_true, ite_false, Bool.false_eq_true, Bool.true_eq_false, beq_true, beq_false, beq_self_eq_true, Bool.not_true, Bool.not_false, reduceCtorEq, List.getElem?_toArray, List.getElem?_cons_zero, List.getElem?_cons_succ, boxT]
  have hB := BoxT.mk' H t
  have hn1 : (H.alloc (tc t)).next = H.next + 1 := rfl
  generalize H.alloc (tc t) = H1 at hB hn1 ⊢
  have hx2 := Ext.alloc H1 [.int .i64 0, .int .i64 0, .int .i64 0, .int .i64 0]
  have hr : (H1.alloc [.int .i64 0, .int .i64 0, .int .i64 0, .int .i64 0]).blk H1.next = some [.int .i64 0, .int .i64 0, .int .i64 0, .int .i64 0] := alloc_new _ _
  have hn2 : (H1.alloc [.int .i64 0, .int .i64 0, .int .i64 0, .int .i64 0]).next = H1.next + 1 := rfl
  replace hB := hB.mono hx2
  generalize H1.alloc [.int .i64 0, .int .i64 0, .int .i64 0, .int .i64 0] = H2 at hB hr hn2 ⊢
  generalize hre : H1.next = r at hr hn2 ⊢
  generalize hpe : H.next = p at hB hl ⊢
  have hpr : p ≠ r := by omega
  refine s_reg ?_
  simp only [o_cont, o_callT, callV_fn, o_pure, o_eff, o_callF, o_callN, o_guard, gk_tt, gk_ff, gk_tf, gk_ft, gk_u, t_op, t_alt, t_nil, o_nil, POp.ev, Opd.ev, EOp.ev, env0, gu, gv, setD, resV, List.set, List.map, List.map_nil, List.map_cons, Option.map_none, Option.map_some, Option.some.injEq, exists_eq_left', pickV, binV, convV, load1V, max2V, min2V, nilchkV, unV, boolEq, isNilV, fadV, extV, slenV, ne_eq, not_true_eq_false, if_false, if_true, ite_true, ite_false, Bool.false_eq_true, Bool.true_eq_false, beq_true, beq_false, beq_self_eq_true, Bool.not_true, Bool.not_false, reduceCtorEq, List.getElem?_toArray, List.getElem?_cons_zero, List.getElem?_cons_succ]
  refine s_cut1 (fun e' H' => BoxT H H' p (wi t k n) ∧ H'.blk r = some [.int .i64 0, .int .i64 0, .int .i64 0, .int .i64 0] ∧ e' = [tv t, .int .i64 k, .int .i64 n, .pointer (some ⟨p, 0, none⟩), .pointer (some ⟨r, 0, none⟩), .int .i64 k]) ?_ ?_
  · refine s_block1 ?_
    refine s_test1 ?_
    simp only [o_cont, o_callT, callV_fn, o_pure, o_eff, o_callF, o_callN, o_guard, gk_tt, gk_ff, gk_tf, gk_ft, gk_u, t_op, t_alt, t_nil, o_nil, POp.ev, Opd.ev, EOp.ev, env0, gu, gv, setD, resV, List.set, List.map, List.map_nil, List.map_cons, Option.map_none, Option.map_some, Option.some.injEq, exists_eq_left', pickV, binV, convV, load1V, max2V, min2V, nilchkV, unV, boolEq, isNilV, fadV, extV, slenV, ne_eq, not_true_eq_false, if_false, if_true, ite_true, ite_false, Bool.false_eq_true, Bool.true_eq_false, beq_true, beq_false, beq_self_eq_true, Bool.not_true, Bool.not_false, reduceCtorEq, List.getElem?_toArray, List.getElem?_cons_zero, List.getElem?_cons_succ]
    refine Test.split (fun h => ?_) (fun h => ?_)
    · obtain ⟨cs, g1, g2⟩ := hB.putf (lim := lim) (by omega) n (j := 1) (by omega)
      refine s_reg1 ?_
      simp only [o_cont, o_callT, callV_fn, o_pure, o_eff, o_callF, o_callN, o_guard, gk_tt, gk_ff, gk_tf, gk_ft, gk_u, t_op, t_alt, t_nil, o_nil, POp.ev, Opd.ev, EOp.ev, env0, gu, gv, setD, resV, List.set, List.map, List.map_nil, List.map_cons, Option.map_none, Option.map_some, Option.some.injEq, exists_eq_left', pickV, binV, convV, load1V, max2V, min2V, nilchkV, unV, boolEq, isNilV, fadV, extV, slenV, ne_eq, not_true_eq_false, if_false, if_true, ite_true, ite_false, Bool.false_eq_true, Bool.true_eq_false, beq_true, beq_false, beq_self_eq_true, Bool.not_true, Bool.not_false, reduceCtorEq, List.getElem?_toArray, List.getElem?_cons_zero, List.getElem?_cons_succ, Nat.zero_add, g1]
      simp +decide only [p_seq_normal, p_seq_ret, p_seq_exit, p_block_normal, p_block_ret, p_block_exit, p_fin_ret, p_fin_normal, reduceIte, Nat.reduceEqDiff, resV, resOne, resL, gv, Option.some.injEq, exists_eq_left', Option.bind_some, Option.map_some, List.getD_cons_zero, List.getD_cons_succ]
      have e : wi t k n = t.upd 1 n := by unfold wi; rw [if_pos (by simpa using h)]; rfl
      rw [e]
      exact ⟨g2, by rw [put_ne _ _ (Ne.symm hpr)]; exact hr, trivial⟩
    · refine s_test1 ?_
      simp only [o_cont, o_callT, callV_fn, o_pure, o_eff, o_callF, o_callN, o_guard, gk_tt, gk_ff, gk_tf, gk_ft, gk_u, t_op, t_alt, t_nil, o_nil, POp.ev, Opd.ev, EOp.ev, env0, gu, gv, setD, resV, List.set, List.map, List.map_nil, List.map_cons, Option.map_none, Option.map_some, Option.some.injEq, exists_eq_left', pickV, binV, convV, load1V, max2V, min2V, nilchkV, unV, boolEq, isNilV, fadV, extV, slenV, ne_eq, not_true_eq_false, if_false, if_true, ite_true, ite_false, Bool.false_eq_true, Bool.true_eq_false, beq_true, beq_false, beq_self_eq_true, Bool.not_true, Bool.not_false, reduceCtorEq, List.getElem?_toArray, List.getElem?_cons_zero, List.getElem?_cons_succ]
      refine Test.split (fun h2 => ?_) (fun h2 => ?_)
      · obtain ⟨cs, g1, g2⟩ := hB.putf (lim := lim) (by omega) n (j := 2) (by omega)
        refine s_reg1 ?_
        simp only [o_cont, o_callT, callV_fn, o_pure, o_eff, o_callF, o_callN, o_guard, gk_tt, gk_ff, gk_tf, gk_ft, gk_u, t_op, t_alt, t_nil, o_nil, POp.ev, Opd.ev, EOp.ev, env0, gu, gv, setD, resV, List.set, List.map, List.map_nil, List.map_cons, Option.map_none, Option.map_some, Option.some.injEq, exists_eq_left', pickV, binV, convV, load1V, max2V, min2V, nilchkV, unV, boolEq, isNilV, fadV, extV, slenV, ne_eq, not_true_eq_false, if_false, if_true, ite_true, ite_false, Bool.false_eq_true, Bool.true_eq_false, beq_true, beq_false, beq_self_eq_true, Bool.not_true, Bool.not_false, reduceCtorEq, List.getElem?_toArray, List.getElem?_cons_zero, List.getElem?_cons_succ, Nat.zero_add, g1]
        simp +decide only [p_seq_normal, p_seq_ret, p_seq_exit, p_block_normal, p_block_ret, p_block_exit, p_fin_ret, p_fin_normal, reduceIte, Nat.reduceEqDiff, resV, resOne, resL, gv, Option.some.injEq, exists_eq_left', Option.bind_some, Option.map_some, List.getD_cons_zero, List.getD_cons_succ]
        have e : wi t k n = t.upd 2 n := by unfold wi; rw [if_neg (by simpa using h), if_pos (by simpa using h2)]; rfl
        rw [e]
        exact ⟨g2, by rw [put_ne _ _ (Ne.symm hpr)]; exact hr, trivial⟩
      · obtain ⟨cs, g1, g2⟩ := hB.putf (lim := lim) (by omega) n (j := 3) (by omega)
        refine s_reg1 ?_
        simp only [o_cont, o_callT, callV_fn, o_pure, o_eff, o_callF, o_callN, o_guard, gk_tt, gk_ff, gk_tf, gk_ft, gk_u, t_op, t_alt, t_nil, o_nil, POp.ev, Opd.ev, EOp.ev, env0, gu, gv, setD, resV, List.set, List.map, List.map_nil, List.map_cons, Option.map_none, Option.map_some, Option.some.injEq, exists_eq_left', pickV, binV, convV, load1V, max2V, min2V, nilchkV, unV, boolEq, isNilV, fadV, extV, slenV, ne_eq, not_true_eq_false, if_false, if_true, ite_true, ite_false, Bool.false_eq_true, Bool.true_eq_false, beq_true, beq_false, beq_self_eq_true, Bool.not_true, Bool.not_false, reduceCtorEq, List.getElem?_toArray, List.getElem?_cons_zero, List.getElem?_cons_succ, Nat.zero_add, g1]
        simp +decide only [p_seq_normal, p_seq_ret, p_seq_exit, p_block_normal, p_block_ret, p_block_exit, p_fin_ret, p_fin_normal, reduceIte, Nat.reduceEqDiff, resV, resOne, resL, gv, Option.some.injEq, exists_eq_left', Option.bind_some, Option.map_some, List.getD_cons_zero, List.getD_cons_succ]
        have e : wi t k n = t.upd 3 n := by unfold wi; rw [if_neg (by simpa using h), if_neg (by simpa using h2)]; rfl
        rw [e]
        exact ⟨g2, by rw [put_ne _ _ (Ne.symm hpr)]; exact hr, trivial⟩
  rintro e' H3 ⟨hB3, hr3, rfl⟩
  refine s_reg ?_
  have hst : storeH lim H3 4 (.pointer (some ⟨r, 0, none⟩)) (tv (wi t k n)) = some (undef, H3.put r (tc (wi t k n))) := store4 (by omega) hr3
  simp only [o_cont, o_callT, callV_fn, o_pure, o_eff, o_callF, o_callN, o_guard, gk_tt, gk_ff, gk_tf, gk_ft, gk_u, t_op, t_alt, t_nil, o_nil, POp.ev, Opd.ev, EOp.ev, env0, gu, gv, setD, resV, List.set, List.map, List.map_nil, List.map_cons, Option.map_none, Option.map_some, Option.some.injEq, exists_eq_left', pickV, binV, convV, load1V, max2V, min2V, nilchkV, unV, boolEq, isNilV, fadV, extV, slenV, ne_eq, not_true_eq_false, if_false, if_true, ite_true, ite_false, Bool.false_eq_true, Bool.true_eq_false, beq_true, beq_false, beq_self_eq_true, Bool.not_true, Bool.not_false, reduceCtorEq, List.getElem?_toArray, List.getElem?_cons_zero, List.getElem?_cons_succ, hB3.all, hst]
  refine s_ret1 ?_
  have hld : loadNV (H3.put r (tc (wi t k n))) 4 (.pointer (some ⟨r, 0, none⟩)) = some (tv (wi t k n)) := load4 (put_same _ _ _)
  simp +decide only [p_seq_normal, p_seq_ret, p_seq_exit, p_block_normal, p_block_ret, p_block_exit, p_fin_ret, p_fin_normal, reduceIte, Nat.reduceEqDiff, resV, resOne, resL, gv, Option.some.injEq, exists_eq_left', Option.bind_some, Option.map_some, List.getD_cons_zero, List.getD_cons_succ, hld]
  exact ⟨trivial, Chg.ext hB3.ext (Chg.put _ _ _) (by omega)⟩

/-- a term with its unknowns exchanged: the exponent at place k goes to the place that the list tells -/
def exGo (t : Tm) : Nat → List Int → Tm → Tm
  | _, [], u => u
  | k, n :: l, u => exGo t (k + 1) l (wi u n (pw t k))
def exG (full : List Int) (t : Tm) : Tm := exGo t 0 full ⟨t.c, 0, 0, 0⟩

theorem bld1 (c : Int) : fillV [.int .i64 0, .int .i64 0, .int .i64 0, .int .i64 0] [(0, 1, .int .i64 c)] = some (tc ⟨c, 0, 0, 0⟩) := by
  simp [fillV, cellsV, tc]

theorem poExchange_ok (lim : Nat) (s o : Value) (p : List Tm) (full : List Int) (H : AHeap) (hl : lim ≤ H.next) (hs : SlT H s p) (ho : Sl H o full.length 1 (full.map vi)) (hn : p.length ≤ 1000) (hn2 : full.length ≤ 1000)
    (hok : ∀ t ∈ p, okTm (exG full t) = true ∧ (exG full t).c ≠ 0) (hd : Dist (p.map (exG full))) :
    ACalls Try.prog lim n_spec_poExchange [s, o] H fun v H' => ∃ b, H.next ≤ b ∧ b ≤ H'.next ∧ VecT H' b v (insAll [] (p.map (exG full))) ∧ Ext H H' := by
  refine is_spec_poExchange.go rfl ?_
  unfold c_spec_poExchange
  refine s_reg ?_
  simp only [o_cont, o_callT, callV_fn, o_pure, o_eff, o_callF, o_callN, o_guard, gk_tt, gk_ff, gk_tf, gk_ft, gk_u, t_op, t_alt, t_nil, o_nil, POp.ev, Opd.ev, EOp.ev, env0, gu, gv, setD, resV, List.set, List.map, List.map_nil, List.map_cons, Option.map_none, Option.map_some, Option.some.injEq, exists_eq_left', pickV, binV, convV, load1V, max2V, min2V, nilchkV, unV, boolEq, isNilV, fadV, extV, slenV, ne_eq, not_true_eq_false, if_false, if_true, ite_true, ite_false, Bool.false_eq_true, Bool.true_eq_false, beq_true, beq_false, beq_self_eq_true, Bool.not_true, Bool.not_false, reduceCtorEq, List.getElem?_toArray, List.getElem?_cons_zero, List.getElem?_cons_succ]
  refine s_reg ?_
  simp only [o_cont, o_callT, callV_fn, o_pure, o_eff, o_callF, o_callN, o_guard, gk_tt, gk_ff, gk_tf, gk_ft, gk_u, t_op, t_alt, t_nil, o_nil, POp.ev, Opd.ev, EOp.ev, env0, gu, gv, setD, resV, List.set, List.map, List.map_nil, List.map_cons, Option.map_none, Option.map_some, Option.some.injEq, exists_eq_left', pickV, binV, convV, load1V, max2V, min2V, nilchkV, unV, boolEq, isNilV, fadV, extV, slenV, ne_eq, not_true_eq_false, if_false, if_true, ite_true, ite_false, Bool.false_eq_true, Bool.true_eq_false, beq_true, beq_false, beq_self_eq_true, Bool.not_true, Bool.not_false, reduceCtorEq, List.getElem?_toArray, List.getElem?_cons_zero, List.getElem?_cons_succ]
  refine s_assoc (s_reg ?_)
  simp only [o_cont, o_callT, callV_fn, o_pure, o_eff, o_callF, o_callN, o_guard, gk_tt, gk_ff, gk_tf, gk_ft, gk_u, t_op, t_alt, t_nil, o_nil, POp.ev, Opd.ev, EOp.ev, env0, gu, gv, setD, resV, List.set, List.map, List.map_nil, List.map_cons, Option.map_none, Option.map_some, Option.some.injEq, exists_eq_left', pickV, binV, convV, load1V, max2V, min2V, nilchkV, unV, boolEq, isNilV, fadV, extV, slenV, ne_eq, not_true_eq_false, if_false, if_true, ite_true, ite_false, Bool.false_eq_true, Bool.true_eq_false, beq_true, beq_false, beq_self_eq_true, Bool.not_true, Bool.not_false, reduceCtorEq, List.getElem?_toArray, List.getElem?_cons_zero, List.getElem?_cons_succ, hs.lenV]
  refine s_block ?_
  refine s_loop1 (fun j e' H' => ∃ (i b : Nat) (v x4 x5 x6 x7 x11 x12 x13 : Value), i + j = p.length ∧ VecT H' b v (insAll [] ((p.take i).map (exG full))) ∧ H.next ≤ b ∧ b ≤ H'.next ∧ Ext H H' ∧ e' = [s, o, .slice none 0 0, v, x4, x5, x6, x7, s, .int .i64 p.length, .int .i64 i, x11, x12, x13]) p.length ⟨0, H.next, _, _, _, _, _, _, _, _, by omega, vecT_nil _ _, Nat.le_refl _, Nat.le_refl _, Ext.refl _, rfl⟩ ?_
  rintro j e' H' ⟨i, b, v, x4, x5, x6, x7, x11, x12, x13, hij, hv, hb, hbH, hx, rfl⟩
  have hnx := hx.next
  refine s_test ?_
  simp only [o_cont, o_callT, callV_fn, o_pure, o_eff, o_callF, o_callN, o_guard, gk_tt, gk_ff, gk_tf, gk_ft, gk_u, t_op, t_alt, t_nil, o_nil, POp.ev, Opd.ev, EOp.ev, env0, gu, gv, setD, resV, List.set, List.map, List.map_nil, List.map_cons, Option.map_none, Option.map_some, Option.some.injEq, exists_eq_left', pickV, binV, convV, load1V, max2V, min2V, nilchkV, unV, boolEq, isNilV, fadV, extV, slenV, ne_eq, not_true_eq_false, if_false, if_true, ite_true, ite_false, Bool.false_eq_true, Bool.true_eq_false, beq_true, beq_false, beq_self_eq_true, Bool.not_true, Bool.not_false, reduceCtorEq, List.getElem?_toArray, List.getElem?_cons_zero, List.getElem?_cons_succ]
  refine Test.split (fun hlt => ?_) (fun hlt => ?_)
  · have hlt' : i < p.length := by simpa using hlt
    obtain ⟨b1, o1, h1, a1⟩ := (hs.ext hx).at hlt'
    have htm := List.getElem_mem hlt'
    generalize hte : p[i] = t at a1 htm
    refine s_skip1 ?_
    simp +decide only [p_seq_normal, p_seq_ret, p_seq_exit, p_block_normal, p_block_ret, p_block_exit, p_fin_ret, p_fin_normal, reduceIte, Nat.reduceEqDiff, resV, resOne, resL, gv, Option.some.injEq, exists_eq_left', Option.bind_some, Option.map_some, List.getD_cons_zero, List.getD_cons_succ]
    refine s_block ?_
    refine s_reg ?_
    simp only [o_cont, o_callT, callV_fn, o_pure, o_eff, o_callF, o_callN, o_guard, gk_tt, gk_ff, gk_tf, gk_ft, gk_u, t_op, t_alt, t_nil, o_nil, POp.ev, Opd.ev, EOp.ev, env0, gu, gv, setD, resV, List.set, List.map, List.map_nil, List.map_cons, Option.map_none, Option.map_some, Option.some.injEq, exists_eq_left', pickV, binV, convV, load1V, max2V, min2V, nilchkV, unV, boolEq, isNilV, fadV, extV, slenV, ne_eq, not_true_eq_false, if_false, if_true, ite_true, ite_false, Bool.false_eq_true, Bool.true_eq_false, beq_true, beq_false, beq_self_eq_true, Bool.not_true, Bool.not_false, reduceCtorEq, List.getElem?_toArray, List.getElem?_cons_zero, List.getElem?_cons_succ, h1, a1.all, store4_new (lim := lim) (H := H') (by omega)]
    have hB := BoxT.mk' H' t
    have hn3 : (H'.alloc (tc t)).next = H'.next + 1 := rfl
    generalize H'.alloc (tc t) = H3 at hB hn3 ⊢
    have hst : storeH lim (H3.alloc [.int .i64 0, .int .i64 0, .int .i64 0, .int .i64 0]) 4 (.pointer (some ⟨H3.next, 0, none⟩)) (tv ⟨t.c, 0, 0, 0⟩) = some (undef, H3.alloc (tc ⟨t.c, 0, 0, 0⟩)) := store4_new (by omega)
    have hbv : ∀ l : List Value, l = tc ⟨t.c, 0, 0, 0⟩ → Value.agg l.toArray = tv ⟨t.c, 0, 0, 0⟩ := by rintro l rfl; rfl
    refine s_reg ?_
    simp only [o_cont, o_callT, callV_fn, o_pure, o_eff, o_callF, o_callN, o_guard, gk_tt, gk_ff, gk_tf, gk_ft, gk_u, t_op, t_alt, t_nil, o_nil, POp.ev, Opd.ev, EOp.ev, env0, gu, gv, setD, resV, List.set, List.map, List.map_nil, List.map_cons, Option.map_none, Option.map_some, Option.some.injEq, exists_eq_left', pickV, binV, convV, load1V, max2V, min2V, nilchkV, unV, boolEq, isNilV, fadV, extV, slenV, ne_eq, not_true_eq_false, if_false, if_true, ite_true, ite_false, Bool.false_eq_true, Bool.true_eq_false, beq_true, beq_false, beq_self_eq_true, Bool.not_true, Bool.not_false, reduceCtorEq, List.getElem?_toArray, List.getElem?_cons_zero, List.getElem?_cons_succ, Nat.zero_add, hB.c0, bld1, hbv _ rfl, hst]
    have hC := (BoxT.mk' H3 (⟨t.c, 0, 0, 0⟩ : Tm)).base hB.ext
    replace hB := hB.mono (Ext.alloc H3 (tc ⟨t.c, 0, 0, 0⟩))
    have hn4 : (H3.alloc (tc ⟨t.c, 0, 0, 0⟩)).next = H3.next + 1 := rfl
    generalize H3.alloc (tc ⟨t.c, 0, 0, 0⟩) = H4 at hB hC hn4 ⊢
    generalize hqe : H'.next = q at hB hn3 ⊢
    generalize hre : H3.next = r at hC hn4 ⊢
    have hqr : q ≠ r := by omega
    refine s_cut1 (fun e'' H'' => ∃ x6 x7 x11 x12 x13 : Value, BoxT H' H'' q t ∧ BoxT H' H'' r (exG full t) ∧ e'' = [s, o, .slice none 0 0, v, .pointer (some ⟨q, 0, none⟩), .pointer (some ⟨r, 0, none⟩), x6, x7, s, .int .i64 p.length, .int .i64 i, x11, x12, x13]) ?_ ?_
    · refine s_reg ?_
      simp only [o_cont, o_callT, callV_fn, o_pure, o_eff, o_callF, o_callN, o_guard, gk_tt, gk_ff, gk_tf, gk_ft, gk_u, t_op, t_alt, t_nil, o_nil, POp.ev, Opd.ev, EOp.ev, env0, gu, gv, setD, resV, List.set, List.map, List.map_nil, List.map_cons, Option.map_none, Option.map_some, Option.some.injEq, exists_eq_left', pickV, binV, convV, load1V, max2V, min2V, nilchkV, unV, boolEq, isNilV, fadV, extV, slenV, ne_eq, not_true_eq_false, if_false, if_true, ite_true, ite_false, Bool.false_eq_true, Bool.true_eq_false, beq_true, beq_false, beq_self_eq_true, Bool.not_true, Bool.not_false, reduceCtorEq, List.getElem?_toArray, List.getElem?_cons_zero, List.getElem?_cons_succ, ho.lenV]
      refine s_block1 ?_
      refine s_loop1 (fun j2 e' H5 => ∃ (k : Nat) (u : Tm) (x6 x7 : Value), k + j2 = full.length ∧ BoxT H' H5 q t ∧ BoxT H' H5 r u ∧ exG full t = exGo t k (full.drop k) u ∧ e' = [s, o, .slice none 0 0, v, .pointer (some ⟨q, 0, none⟩), .pointer (some ⟨r, 0, none⟩), x6, x7, s, .int .i64 p.length, .int .i64 i, o, .int .i64 full.length, .int .i64 k]) full.length ⟨0, _, _, _, by omega, hB, hC, rfl, rfl⟩ ?_
      clear hB hC
      rintro j2 e' H5 ⟨k, u, x6, x7, hkj, hB, hC, hex, rfl⟩
      refine s_test ?_
      simp only [o_cont, o_callT, callV_fn, o_pure, o_eff, o_callF, o_callN, o_guard, gk_tt, gk_ff, gk_tf, gk_ft, gk_u, t_op, t_alt, t_nil, o_nil, POp.ev, Opd.ev, EOp.ev, env0, gu, gv, setD, resV, List.set, List.map, List.map_nil, List.map_cons, Option.map_none, Option.map_some, Option.some.injEq, exists_eq_left', pickV, binV, convV, load1V, max2V, min2V, nilchkV, unV, boolEq, isNilV, fadV, extV, slenV, ne_eq, not_true_eq_false, if_false, if_true, ite_true, ite_false, Bool.false_eq_true, Bool.true_eq_false, beq_true, beq_false, beq_self_eq_true, Bool.not_true, Bool.not_false, reduceCtorEq, List.getElem?_toArray, List.getElem?_cons_zero, List.getElem?_cons_succ]
      refine Test.split (fun hlt2 => ?_) (fun hlt2 => ?_)
      · have hk : k < full.length := by simpa using hlt2
        have ho5 := ho.keep (Keep.of_ext (hx.trans hB.ext) (Nat.le_refl _)) (Nat.le_refl _)
        obtain ⟨b2, o2, k1, k2, k3⟩ := ho5.cell .i64 (i := (k : Int)) (by omega) (by omega)
        rw [show (k : Int).toNat = k by omega, List.getElem?_map, List.getElem?_eq_getElem hk] at k3
        simp only [Option.map_some] at k3
        rw [List.drop_eq_getElem_cons hk, exGo] at hex
        refine s_skip1 ?_
        simp +decide only [p_seq_normal, p_seq_ret, p_seq_exit, p_block_normal, p_block_ret, p_block_exit, p_fin_ret, p_fin_normal, reduceIte, Nat.reduceEqDiff, resV, resOne, resL, gv, Option.some.injEq, exists_eq_left', Option.bind_some, Option.map_some, List.getD_cons_zero, List.getD_cons_succ]
        refine s_block ?_
        refine s_reg ?_
        simp only [o_cont, o_callT, callV_fn, o_pure, o_eff, o_callF, o_callN, o_guard, gk_tt, gk_ff, gk_tf, gk_ft, gk_u, t_op, t_alt, t_nil, o_nil, POp.ev, Opd.ev, EOp.ev, env0, gu, gv, setD, resV, List.set, List.map, List.map_nil, List.map_cons, Option.map_none, Option.map_some, Option.some.injEq, exists_eq_left', pickV, binV, convV, load1V, max2V, min2V, nilchkV, unV, boolEq, isNilV, fadV, extV, slenV, ne_eq, not_true_eq_false, if_false, if_true, ite_true, ite_false, Bool.false_eq_true, Bool.true_eq_false, beq_true, beq_false, beq_self_eq_true, Bool.not_true, Bool.not_false, reduceCtorEq, List.getElem?_toArray, List.getElem?_cons_zero, List.getElem?_cons_succ, k1, k3]
        refine s_reg1 ?_
        simp only [o_cont, o_callT, callV_fn, o_pure, o_eff, o_callF, o_callN, o_guard, gk_tt, gk_ff, gk_tf, gk_ft, gk_u, t_op, t_alt, t_nil, o_nil, POp.ev, Opd.ev, EOp.ev, env0, gu, gv, setD, resV, List.set, List.map, List.map_nil, List.map_cons, Option.map_none, Option.map_some, Option.some.injEq, exists_eq_left', pickV, binV, convV, load1V, max2V, min2V, nilchkV, unV, boolEq, isNilV, fadV, extV, slenV, ne_eq, not_true_eq_false, if_false, if_true, ite_true, ite_false, Bool.false_eq_true, Bool.true_eq_false, beq_true, beq_false, beq_self_eq_true, Bool.not_true, Bool.not_false, reduceCtorEq, List.getElem?_toArray, List.getElem?_cons_zero, List.getElem?_cons_succ, hB.all, hC.all]
        refine (poPower_ok _ _ _ _).use ?_
        rintro _ H6 ⟨rfl, hx6⟩ _
        simp only [o_cont, o_callT, callV_fn, o_pure, o_eff, o_callF, o_callN, o_guard, gk_tt, gk_ff, gk_tf, gk_ft, gk_u, t_op, t_alt, t_nil, o_nil, POp.ev, Opd.ev, EOp.ev, env0, gu, gv, setD, resV, List.set, List.map, List.map_nil, List.map_cons, Option.map_none, Option.map_some, Option.some.injEq, exists_eq_left', pickV, binV, convV, load1V, max2V, min2V, nilchkV, unV, boolEq, isNilV, fadV, extV, slenV, ne_eq, not_true_eq_false, if_false, if_true, ite_true, ite_false, Bool.false_eq_true, Bool.true_eq_false, beq_true, beq_false, beq_self_eq_true, Bool.not_true, Bool.not_false, reduceCtorEq, List.getElem?_toArray, List.getElem?_cons_zero, List.getElem?_cons_succ]
        have hn6 := (hB.ext.trans hx6).next
        refine (poWith_ok lim _ _ _ _ (by omega)).mono ?_
        rintro _ H7 ⟨rfl, hx7⟩
        have hx67 := hx6.trans hx7
        obtain ⟨g1, g2⟩ := (hC.mono hx67).putall (lim := lim) (by omega) (wi u full[k] (pw t k))
        have hB7 := (hB.mono hx67).other (cs := tc (wi u full[k] (pw t k))) (by omega : H'.next ≤ r) hqr
        simp only [o_cont, o_callT, callV_fn, o_pure, o_eff, o_callF, o_callN, o_guard, gk_tt, gk_ff, gk_tf, gk_ft, gk_u, t_op, t_alt, t_nil, o_nil, POp.ev, Opd.ev, EOp.ev, env0, gu, gv, setD, resV, List.set, List.map, List.map_nil, List.map_cons, Option.map_none, Option.map_some, Option.some.injEq, exists_eq_left', pickV, binV, convV, load1V, max2V, min2V, nilchkV, unV, boolEq, isNilV, fadV, extV, slenV, ne_eq, not_true_eq_false, if_false, if_true, ite_true, ite_false, Bool.false_eq_true, Bool.true_eq_false, beq_true, beq_false, beq_self_eq_true, Bool.not_true, Bool.not_false, reduceCtorEq, List.getElem?_toArray, List.getElem?_cons_zero, List.getElem?_cons_succ, g1]
        simp +decide only [p_seq_normal, p_seq_ret, p_seq_exit, p_block_normal, p_block_ret, p_block_exit, p_fin_ret, p_fin_normal, reduceIte, Nat.reduceEqDiff, resV, resOne, resL, gv, Option.some.injEq, exists_eq_left', Option.bind_some, Option.map_some, List.getD_cons_zero, List.getD_cons_succ]
        refine s_reg1 ?_
        simp only [o_cont, o_callT, callV_fn, o_pure, o_eff, o_callF, o_callN, o_guard, gk_tt, gk_ff, gk_tf, gk_ft, gk_u, t_op, t_alt, t_nil, o_nil, POp.ev, Opd.ev, EOp.ev, env0, gu, gv, setD, resV, List.set, List.map, List.map_nil, List.map_cons, Option.map_none, Option.map_some, Option.some.injEq, exists_eq_left', pickV, binV, convV, load1V, max2V, min2V, nilchkV, unV, boolEq, isNilV, fadV, extV, slenV, ne_eq, not_true_eq_false, if_false, if_true, ite_true, ite_false, Bool.false_eq_true, Bool.true_eq_false, beq_true, beq_false, beq_self_eq_true, Bool.not_true, Bool.not_false, reduceCtorEq, List.getElem?_toArray, List.getElem?_cons_zero, List.getElem?_cons_succ, add1 (i := k) (by omega)]
        simp +decide only [p_seq_normal, p_seq_ret, p_seq_exit, p_block_normal, p_block_ret, p_block_exit, p_fin_ret, p_fin_normal, reduceIte, Nat.reduceEqDiff, resV, resOne, resL, gv, Option.some.injEq, exists_eq_left', Option.bind_some, Option.map_some, List.getD_cons_zero, List.getD_cons_succ]
        exact Round.mk (j2 - 1) (by omega) ⟨k + 1, _, _, _, by omega, hB7, g2, hex, rfl⟩
      · have hge : k = full.length := by simp at hlt2; omega
        rw [hge, List.drop_length, exGo] at hex
        refine s_exit1 ?_
        simp +decide only [p_seq_normal, p_seq_ret, p_seq_exit, p_block_normal, p_block_ret, p_block_exit, p_fin_ret, p_fin_normal, reduceIte, Nat.reduceEqDiff, resV, resOne, resL, gv, Option.some.injEq, exists_eq_left', Option.bind_some, Option.map_some, List.getD_cons_zero, List.getD_cons_succ]
        rw [hex]
        exact ⟨_, _, _, _, _, hB, hC, rfl⟩
    clear hB hC
    rintro e'' H5 ⟨y6, y7, y11, y12, y13, hB, hC, rfl⟩
    have hx5 := hx.trans hB.ext
    have hn5 := hB.ext.next
    obtain ⟨hok1, hok2⟩ := hok t htm
    have hlen : (insAll [] ((p.take i).map (exG full))).length ≤ 10000 := by rw [insAll_length]; simp; omega
    refine s_reg1 ?_
    simp only [o_cont, o_callT, callV_fn, o_pure, o_eff, o_callF, o_callN, o_guard, gk_tt, gk_ff, gk_tf, gk_ft, gk_u, t_op, t_alt, t_nil, o_nil, POp.ev, Opd.ev, EOp.ev, env0, gu, gv, setD, resV, List.set, List.map, List.map_nil, List.map_cons, Option.map_none, Option.map_some, Option.some.injEq, exists_eq_left', pickV, binV, convV, load1V, max2V, min2V, nilchkV, unV, boolEq, isNilV, fadV, extV, slenV, ne_eq, not_true_eq_false, if_false, if_true, ite_true, ite_false, Bool.false_eq_true, Bool.true_eq_false, beq_true, beq_false, beq_self_eq_true, Bool.not_true, Bool.not_false, reduceCtorEq, List.getElem?_toArray, List.getElem?_cons_zero, List.getElem?_cons_succ, hC.all]
    refine (poPut_ok lim _ _ _ _ (by omega) (Vec.sl (VecT.ext hv hB.ext)) hlen (fun x hx => ?_) hok1 hok2 (fun x hx => ?_)).mono ?_
    · rcases mem_insAll.1 hx with hx | hx
      · simp at hx
      · obtain ⟨y, hy, rfl⟩ := List.mem_map.1 hx
        exact (hok y (List.mem_of_mem_take hy)).1
    · rcases mem_insAll.1 hx with hx | hx
      · simp at hx
      · obtain ⟨y, hy, rfl⟩ := List.mem_map.1 hx
        have hsplit : p.map (exG full) = (p.take i).map (exG full) ++ exG full t :: (p.drop (i + 1)).map (exG full) := by
          rw [← hte, ← List.map_cons, ← List.drop_eq_getElem_cons hlt', ← List.map_append, List.take_append_drop]
        unfold Dist at hd
        rw [hsplit] at hd
        exact (List.pairwise_append.1 hd).2.2 _ (List.mem_map.2 ⟨y, hy, rfl⟩) _ (by simp)
    rintro w H6 ⟨b6, h61, h62, hv6, hx6⟩
    simp only [o_cont, o_callT, callV_fn, o_pure, o_eff, o_callF, o_callN, o_guard, gk_tt, gk_ff, gk_tf, gk_ft, gk_u, t_op, t_alt, t_nil, o_nil, POp.ev, Opd.ev, EOp.ev, env0, gu, gv, setD, resV, List.set, List.map, List.map_nil, List.map_cons, Option.map_none, Option.map_some, Option.some.injEq, exists_eq_left', pickV, binV, convV, load1V, max2V, min2V, nilchkV, unV, boolEq, isNilV, fadV, extV, slenV, ne_eq, not_true_eq_false, if_false, if_true, ite_true, ite_false, Bool.false_eq_true, Bool.true_eq_false, beq_true, beq_false, beq_self_eq_true, Bool.not_true, Bool.not_false, reduceCtorEq, List.getElem?_toArray, List.getElem?_cons_zero, List.getElem?_cons_succ]
    simp +decide only [p_seq_normal, p_seq_ret, p_seq_exit, p_block_normal, p_block_ret, p_block_exit, p_fin_ret, p_fin_normal, reduceIte, Nat.reduceEqDiff, resV, resOne, resL, gv, Option.some.injEq, exists_eq_left', Option.bind_some, Option.map_some, List.getD_cons_zero, List.getD_cons_succ]
    refine s_reg1 ?_
    simp only [o_cont, o_callT, callV_fn, o_pure, o_eff, o_callF, o_callN, o_guard, gk_tt, gk_ff, gk_tf, gk_ft, gk_u, t_op, t_alt, t_nil, o_nil, POp.ev, Opd.ev, EOp.ev, env0, gu, gv, setD, resV, List.set, List.map, List.map_nil, List.map_cons, Option.map_none, Option.map_some, Option.some.injEq, exists_eq_left', pickV, binV, convV, load1V, max2V, min2V, nilchkV, unV, boolEq, isNilV, fadV, extV, slenV, ne_eq, not_true_eq_false, if_false, if_true, ite_true, ite_false, Bool.false_eq_true, Bool.true_eq_false, beq_true, beq_false, beq_self_eq_true, Bool.not_true, Bool.not_false, reduceCtorEq, List.getElem?_toArray, List.getElem?_cons_zero, List.getElem?_cons_succ, add1 (i := i) (by omega)]
    simp +decide only [p_seq_normal, p_seq_ret, p_seq_exit, p_block_normal, p_block_ret, p_block_exit, p_fin_ret, p_fin_normal, reduceIte, Nat.reduceEqDiff, resV, resOne, resL, gv, Option.some.injEq, exists_eq_left', Option.bind_some, Option.map_some, List.getD_cons_zero, List.getD_cons_succ]
    refine Round.mk (j - 1) (by omega) ⟨i + 1, b6, w, _, _, _, _, _, _, _, by omega, ?_, by omega, h62, hx5.trans hx6, rfl⟩
    rw [List.take_add_one, List.getElem?_eq_getElem hlt', hte, List.map_append]
    show VecT H6 b6 w (insAll [] (_ ++ [exG full t]))
    rw [insAll_snoc]
    exact hv6
  · have hge : i = p.length := by simp at hlt; omega
    subst hge
    rw [List.take_length] at hv
    refine s_exit1 ?_
    simp +decide only [p_seq_normal, p_seq_ret, p_seq_exit, p_block_normal, p_block_ret, p_block_exit, p_fin_ret, p_fin_normal, reduceIte, Nat.reduceEqDiff, resV, resOne, resL, gv, Option.some.injEq, exists_eq_left', Option.bind_some, Option.map_some, List.getD_cons_zero, List.getD_cons_succ]
    refine s_reg ?_
    simp only [o_cont, o_callT, callV_fn, o_pure, o_eff, o_callF, o_callN, o_guard, gk_tt, gk_ff, gk_tf, gk_ft, gk_u, t_op, t_alt, t_nil, o_nil, POp.ev, Opd.ev, EOp.ev, env0, gu, gv, setD, resV, List.set, List.map, List.map_nil, List.map_cons, Option.map_none, Option.map_some, Option.some.injEq, exists_eq_left', pickV, binV, convV, load1V, max2V, min2V, nilchkV, unV, boolEq, isNilV, fadV, extV, slenV, ne_eq, not_true_eq_false, if_false, if_true, ite_true, ite_false, Bool.false_eq_true, Bool.true_eq_false, beq_true, beq_false, beq_self_eq_true, Bool.not_true, Bool.not_false, reduceCtorEq, List.getElem?_toArray, List.getElem?_cons_zero, List.getElem?_cons_succ]
    refine s_ret1 ?_
    simp +decide only [p_seq_normal, p_seq_ret, p_seq_exit, p_block_normal, p_block_ret, p_block_exit, p_fin_ret, p_fin_normal, reduceIte, Nat.reduceEqDiff, resV, resOne, resL, gv, Option.some.injEq, exists_eq_left', Option.bind_some, Option.map_some, List.getD_cons_zero, List.getD_cons_succ]
    exact ⟨b, hb, hbH, hv, hx⟩
end Go.Proofs.Ytaimceodhhgnnaa
