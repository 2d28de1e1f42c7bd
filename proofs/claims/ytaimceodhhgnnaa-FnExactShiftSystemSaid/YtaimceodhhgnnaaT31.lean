/- Systems of polynomials: products of terms and joined lists of terms; no condition beyond stated ranges. -/
import Derived.Test.YtaimceodhhgnnaaT30
namespace Go.Proofs.Ytaimceodhhgnnaa
open Go.Ab
set_option linter.unusedSimpArgs false
set_option linter.unusedVariables false

theorem bldT (a b c d : Int) : fillV [.int .i64 0, .int .i64 0, .int .i64 0, .int .i64 0] [(0, 1, .int .i64 a), (1, 1, .int .i64 b), (2, 1, .int .i64 c), (3, 1, .int .i64 d)] = some (tc ⟨a, b, c, d⟩) := by
  simp [fillV, cellsV, tc, putL]
def mulT (a b : Tm) : Tm := ⟨W (a.c * b.c), a.x + b.x, a.y + b.y, a.z + b.z⟩
def prodL (p q : List Tm) : List Tm := p.flatMap fun a => q.map (mulT a)
theorem prodL_length (p q : List Tm) : (prodL p q).length = p.length * q.length := by
  induction p with
  | nil => simp [prodL]
  | cons a p ih =>
    have : prodL (a :: p) q = q.map (mulT a) ++ prodL p q := rfl
    rw [this, List.length_append, ih, List.length_map, List.length_cons, Nat.succ_mul]
    omega
theorem prodL_take {p q : List Tm} {i : Nat} (h : i < p.length) : prodL (p.take (i + 1)) q = prodL (p.take i) q ++ q.map (mulT p[i]) := by
  unfold prodL
  rw [List.take_succ_eq_append_getElem h, List.flatMap_append]
  simp
theorem prodL_take_le {p q : List Tm} {i : Nat} : (prodL (p.take i) q).length ≤ p.length * q.length := by
  rw [prodL_length]
  exact Nat.mul_le_mul_right _ (by simp; omega)
/-- exponents within a thousand -/
def exS (t : Tm) : Prop := (0 ≤ t.x ∧ t.x ≤ 1000) ∧ (0 ≤ t.y ∧ t.y ≤ 1000) ∧ (0 ≤ t.z ∧ t.z ≤ 1000)

theorem BoxT.low {Hb Hb' H : AHeap} {q : Nat} {t : Tm} (h : BoxT Hb H q t) (hx : Ext Hb' Hb) : BoxT Hb' H q t := ⟨hx.trans h.ext, Nat.le_trans hx.next h.ge, h.lt, h.blk⟩
theorem BoxT.chg {Hb H H' : AHeap} {q b : Nat} {t : Tm} (h : BoxT Hb H q t) (hc : Chg b H H') (hb : Hb.next ≤ b) (hne : q ≠ b) : BoxT Hb H' q t :=
  ⟨Chg.ext h.ext hc hb, h.ge, Nat.lt_of_lt_of_le h.lt hc.next, by rw [hc.blk q h.lt hne]; exact h.blk⟩
theorem VecT.avoid {H : AHeap} {b a : Nat} {v : Value} {l : List Tm} (h : VecT H b v l) : ∃ b2, VecT H b2 v l ∧ (b2 = b ∧ b < H.next ∨ b2 = a) := by
  rcases h with h | h
  · exact ⟨a, .inl h, .inr rfl⟩
  · obtain ⟨c, sp, rest, h1, h2, h3, h4⟩ := h
    exact ⟨b, .inr ⟨c, sp, rest, h1, h2, h3, h4⟩, .inl ⟨rfl, h3⟩⟩

theorem multiplyTerms_ok (lim : Nat) (sp sq : Value) (p q : List Tm) (H : AHeap) (hl : lim ≤ H.next) (hp : SlT H sp p) (hq : SlT H sq q) (hn : p.length ≤ 100) (hm : q.length ≤ 100) (ep : ∀ t ∈ p, exS t) (eq : ∀ t ∈ q, exS t) :
    ACalls Try.prog lim n_impl_multiplyTerms [sp, sq] H fun v H' => ∃ b, H.next ≤ b ∧ b ≤ H'.next ∧ VecT H' b v (coll (prodL p q)) ∧ Ext H H' := by
  refine is_impl_multiplyTerms.go rfl ?_
  unfold c_impl_multiplyTerms
  have hpq : p.length * q.length ≤ 10000 := Nat.mul_le_mul hn hm
  refine s_reg ?_
  simp only [o_cont, o_callT, callV_fn, o_pure, o_eff, o_callF, o_callN, o_guard, gk_tt, gk_ff, gk_tf, gk_ft, gk_u, t_op, t_alt, t_nil, o_nil, POp.ev, Opd.ev, EOp.ev, env0, gu, gv, setD, resV, List.set, List.map, List.map_nil, List.map_cons, Option.map_none, Option.map_some, Option.some.injEq, exists_eq_left', pickV, binV, convV, load1V, max2V, min2V, nilchkV, unV, boolEq, isNilV, fadV, extV, slenV, ne_eq, not_true_eq_false, if_false, if_true, ite_true, ite_false, Bool.false_eq_true, Bool.true_eq_false, beq_true, beq_false, beq_self_eq_true, Bool.not_true, Bool.not_false, reduceCtorEq, List.getElem?_toArray, List.getElem?_cons_zero, List.getElem?_cons_succ]
  refine s_reg ?_
  simp only [o_cont, o_callT, callV_fn, o_pure, o_eff, o_callF, o_callN, o_guard, gk_tt, gk_ff, gk_tf, gk_ft, gk_u, t_op, t_alt, t_nil, o_nil, POp.ev, Opd.ev, EOp.ev, env0, gu, gv, setD, resV, List.set, List.map, List.map_nil, List.map_cons, Option.map_none, Option.map_some, Option.some.injEq, exists_eq_left', pickV, binV, convV, load1V, max2V, min2V, nilchkV, unV, boolEq, isNilV, fadV, extV, slenV, ne_eq, not_true_eq_false, if_false, if_true, ite_true, ite_false, Bool.false_eq_true, Bool.true_eq_false, beq_true, beq_false, beq_self_eq_true, Bool.not_true, Bool.not_false, reduceCtorEq, List.getElem?_toArray, List.getElem?_cons_zero, List.getElem?_cons_succ]
  refine s_assoc (s_reg ?_)
  simp only [o_cont, o_callT, callV_fn, o_pure, o_eff, o_callF, o_callN, o_guard, gk_tt, gk_ff, gk_tf, gk_ft, gk_u, t_op, t_alt, t_nil, o_nil, POp.ev, Opd.ev, EOp.ev, env0, gu, gv, setD, resV, List.set, List.map, List.map_nil, List.map_cons, Option.map_none, Option.map_some, Option.some.injEq, exists_eq_left', pickV, binV, convV, load1V, max2V, min2V, nilchkV, unV, boolEq, isNilV, fadV, extV, slenV, ne_eq, not_true_eq_false, if_false, if_true, ite_true, ite_false, Bool.false_eq_true, Bool.true_eq_false, beq_true, beq_false, beq_self_eq_true, Bool.not_true, Bool.not_false, reduceCtorEq, List.getElem?_toArray, List.getElem?_cons_zero, List.getElem?_cons_succ, hp.lenV]
  refine s_block ?_
  refine s_loop1 (fun k e' H' => ∃ (i b : Nat) (v x4 x5 x9 x10 x11 : Value), i + k = p.length ∧ VecT H' b v (prodL (p.take i) q) ∧ H.next ≤ b ∧ b ≤ H'.next ∧ Ext H H' ∧ e' = [sp, sq, .slice none 0 0, v, x4, x5, sp, .int .i64 p.length, .int .i64 i, x9, x10, x11]) p.length ⟨0, H.next, _, _, _, _, _, _, by omega, vecT_nil _ _, Nat.le_refl _, Nat.le_refl _, Ext.refl _, rfl⟩ ?_
  rintro k e' H1 ⟨i, b, v, x4, x5, x9, x10, x11, hik, hv, hb, hbH, hx, rfl⟩
  have hnx := hx.next
  refine s_test ?_
  simp only [o_cont, o_callT, callV_fn, o_pure, o_eff, o_callF, o_callN, o_guard, gk_tt, gk_ff, gk_tf, gk_ft, gk_u, t_op, t_alt, t_nil, o_nil, POp.ev, Opd.ev, EOp.ev, env0, gu, gv, setD, resV, List.set, List.map, List.map_nil, List.map_cons, Option.map_none, Option.map_some, Option.some.injEq, exists_eq_left', pickV, binV, convV, load1V, max2V, min2V, nilchkV, unV, boolEq, isNilV, fadV, extV, slenV, ne_eq, not_true_eq_false, if_false, if_true, ite_true, ite_false, Bool.false_eq_true, Bool.true_eq_false, beq_true, beq_false, beq_self_eq_true, Bool.not_true, Bool.not_false, reduceCtorEq, List.getElem?_toArray, List.getElem?_cons_zero, List.getElem?_cons_succ]
  refine Test.split (fun hlt => ?_) (fun hlt => ?_)
  · have hlt' : i < p.length := by simpa using hlt
    obtain ⟨b2, o2, h2, a2⟩ := (hp.ext hx).at hlt'
    refine s_skip1 ?_
    simp +decide only [p_seq_normal, p_seq_ret, p_seq_exit, p_block_normal, p_block_ret, p_block_exit, p_fin_ret, p_fin_normal, reduceIte, Nat.reduceEqDiff, resV, resOne, resL, gv, Option.some.injEq, exists_eq_left', Option.bind_some, Option.map_some, List.getD_cons_zero, List.getD_cons_succ]
    refine s_block ?_
    refine s_reg ?_
    simp only [o_cont, o_callT, callV_fn, o_pure, o_eff, o_callF, o_callN, o_guard, gk_tt, gk_ff, gk_tf, gk_ft, gk_u, t_op, t_alt, t_nil, o_nil, POp.ev, Opd.ev, EOp.ev, env0, gu, gv, setD, resV, List.set, List.map, List.map_nil, List.map_cons, Option.map_none, Option.map_some, Option.some.injEq, exists_eq_left', pickV, binV, convV, load1V, max2V, min2V, nilchkV, unV, boolEq, isNilV, fadV, extV, slenV, ne_eq, not_true_eq_false, if_false, if_true, ite_true, ite_false, Bool.false_eq_true, Bool.true_eq_false, beq_true, beq_false, beq_self_eq_true, Bool.not_true, Bool.not_false, reduceCtorEq, List.getElem?_toArray, List.getElem?_cons_zero, List.getElem?_cons_succ, h2, a2.all, store4_new (lim := lim) (H := H1) (by omega)]
    have hA := BoxT.mk' H1 p[i]
    generalize H1.alloc (tc p[i]) = H2 at hA ⊢
    generalize H1.next = a at hA hnx hbH ⊢
    have hx2 := hx.trans hA.ext
    have hn2 := hA.lt
    have hage := hA.ge
    obtain ⟨b', hv', hb'⟩ := VecT.avoid (a := a + 1) hv
    replace hv := VecT.ext hv' hA.ext
    have hq2 := hq.ext hx2
    have hA0 := hA.low hx
    refine s_reg ?_
    simp only [o_cont, o_callT, callV_fn, o_pure, o_eff, o_callF, o_callN, o_guard, gk_tt, gk_ff, gk_tf, gk_ft, gk_u, t_op, t_alt, t_nil, o_nil, POp.ev, Opd.ev, EOp.ev, env0, gu, gv, setD, resV, List.set, List.map, List.map_nil, List.map_cons, Option.map_none, Option.map_some, Option.some.injEq, exists_eq_left', pickV, binV, convV, load1V, max2V, min2V, nilchkV, unV, boolEq, isNilV, fadV, extV, slenV, ne_eq, not_true_eq_false, if_false, if_true, ite_true, ite_false, Bool.false_eq_true, Bool.true_eq_false, beq_true, beq_false, beq_self_eq_true, Bool.not_true, Bool.not_false, reduceCtorEq, List.getElem?_toArray, List.getElem?_cons_zero, List.getElem?_cons_succ, hq2.lenV]
    refine s_block1 ?_
    refine s_loop1 (fun k2 e' H' => ∃ (j b : Nat) (v x5 : Value), j + k2 = q.length ∧ VecT H' b v (prodL (p.take i) q ++ (q.take j).map (mulT p[i])) ∧ H.next ≤ b ∧ b ≤ H'.next ∧ b ≠ a ∧ BoxT H H' a p[i] ∧ e' = [sp, sq, .slice none 0 0, v, .pointer (some ⟨a, 0, none⟩), x5, sp, .int .i64 p.length, .int .i64 i, sq, .int .i64 q.length, .int .i64 j]) q.length ⟨0, b', _, _, by omega, by simpa using hv, by omega, by omega, by omega, hA0, rfl⟩ ?_
    clear hv hb hbH hv' hb' hA hA0 hn2 hage
    rintro k2 e' H3 ⟨j, b, v, x5', hjk, hv, hb, hbH, hba, hA, rfl⟩
    have hx3 := hA.ext
    have hn3 := hx3.next
    have hage := hA.ge
    have halt := hA.lt
    refine s_test ?_
    simp only [o_cont, o_callT, callV_fn, o_pure, o_eff, o_callF, o_callN, o_guard, gk_tt, gk_ff, gk_tf, gk_ft, gk_u, t_op, t_alt, t_nil, o_nil, POp.ev, Opd.ev, EOp.ev, env0, gu, gv, setD, resV, List.set, List.map, List.map_nil, List.map_cons, Option.map_none, Option.map_some, Option.some.injEq, exists_eq_left', pickV, binV, convV, load1V, max2V, min2V, nilchkV, unV, boolEq, isNilV, fadV, extV, slenV, ne_eq, not_true_eq_false, if_false, if_true, ite_true, ite_false, Bool.false_eq_true, Bool.true_eq_false, beq_true, beq_false, beq_self_eq_true, Bool.not_true, Bool.not_false, reduceCtorEq, List.getElem?_toArray, List.getElem?_cons_zero, List.getElem?_cons_succ]
    refine Test.split (fun hlt2 => ?_) (fun hlt2 => ?_)
    · have hlt3 : j < q.length := by simpa using hlt2
      obtain ⟨b4, o4, h4, a4⟩ := (hq.ext hx3).at hlt3
      refine s_skip1 ?_
      simp +decide only [p_seq_normal, p_seq_ret, p_seq_exit, p_block_normal, p_block_ret, p_block_exit, p_fin_ret, p_fin_normal, reduceIte, Nat.reduceEqDiff, resV, resOne, resL, gv, Option.some.injEq, exists_eq_left', Option.bind_some, Option.map_some, List.getD_cons_zero, List.getD_cons_succ]
      refine s_block ?_
      refine s_reg ?_
      simp only [o_cont, o_callT, callV_fn, o_pure, o_eff, o_callF, o_callN, o_guard, gk_tt, gk_ff, gk_tf, gk_ft, gk_u, t_op, t_alt, t_nil, o_nil, POp.ev, Opd.ev, EOp.ev, env0, gu, gv, setD, resV, List.set, List.map, List.map_nil, List.map_cons, Option.map_none, Option.map_some, Option.some.injEq, exists_eq_left', pickV, binV, convV, load1V, max2V, min2V, nilchkV, unV, boolEq, isNilV, fadV, extV, slenV, ne_eq, not_true_eq_false, if_false, if_true, ite_true, ite_false, Bool.false_eq_true, Bool.true_eq_false, beq_true, beq_false, beq_self_eq_true, Bool.not_true, Bool.not_false, reduceCtorEq, List.getElem?_toArray, List.getElem?_cons_zero, List.getElem?_cons_succ, h4, a4.all, store4_new (lim := lim) (H := H3) (by omega)]
      have hB := BoxT.mk' H3 q[j]
      generalize H3.alloc (tc q[j]) = H4 at hB ⊢
      generalize H3.next = c at hB hn3 hbH ⊢
      have hn4 := hB.lt
      have hcge := hB.ge
      have hA4 := hA.mono hB.ext
      have e1 := ep _ (List.getElem_mem hlt')
      have e2 := eq _ (List.getElem_mem hlt3)
      obtain ⟨⟨u1, u2⟩, ⟨u3, u4⟩, u5, u6⟩ := e1
      obtain ⟨⟨v1, v2⟩, ⟨v3, v4⟩, v5, v6⟩ := e2
      have wx : IntKind.i64.wrap (p[i].x + q[j].x) = p[i].x + q[j].x := by rw [IntKind.wrap_i64]; omega
      have wy : IntKind.i64.wrap (p[i].y + q[j].y) = p[i].y + q[j].y := by rw [IntKind.wrap_i64]; omega
      have wz : IntKind.i64.wrap (p[i].z + q[j].z) = p[i].z + q[j].z := by rw [IntKind.wrap_i64]; omega
      replace hv := VecT.ext hv hB.ext
      have hlen : (prodL (p.take i) q ++ (q.take j).map (mulT p[i])).length ≤ 20000 := by
        have := prodL_take_le (p := p) (q := q) (i := i)
        simp
        omega
      obtain ⟨v', H5, b', g1, g2, g3, g4, g5⟩ := pushT (lim := lim) hv (mulT p[i] q[j]) (by omega) (by omega)
      refine s_reg1 ?_
      have hbs : bsliceH H4 1 [.int .i64 0, .int .i64 0, .int .i64 0, .int .i64 0] [(0, 4, tv (mulT p[i] q[j]))] = some (.slice (some ⟨H4.next, 0, some 0⟩) 1 1, H4.alloc (tc (mulT p[i] q[j]))) := bsliceT _ _
      simp only [o_cont, o_callT, callV_fn, o_pure, o_eff, o_callF, o_callN, o_guard, gk_tt, gk_ff, gk_tf, gk_ft, gk_u, t_op, t_alt, t_nil, o_nil, POp.ev, Opd.ev, EOp.ev, env0, gu, gv, setD, resV, List.set, List.map, List.map_nil, List.map_cons, Option.map_none, Option.map_some, Option.some.injEq, exists_eq_left', pickV, binV, convV, load1V, max2V, min2V, nilchkV, unV, boolEq, isNilV, fadV, extV, slenV, ne_eq, not_true_eq_false, if_false, if_true, ite_true, ite_false, Bool.false_eq_true, Bool.true_eq_false, beq_true, beq_false, beq_self_eq_true, Bool.not_true, Bool.not_false, reduceCtorEq, List.getElem?_toArray, List.getElem?_cons_zero, List.getElem?_cons_succ, Nat.add_zero, Nat.zero_add, hA4.c0, hA4.c1, hA4.c2, hA4.c3, hB.c0, hB.c1, hB.c2, hB.c3, wx, wy, wz, bldT]
      refine ⟨_, hbs, _, g1, ?_⟩
      simp +decide only [p_seq_normal, p_seq_ret, p_seq_exit, p_block_normal, p_block_ret, p_block_exit, p_fin_ret, p_fin_normal, reduceIte, Nat.reduceEqDiff, resV, resOne, resL, gv, Option.some.injEq, exists_eq_left', Option.bind_some, Option.map_some, List.getD_cons_zero, List.getD_cons_succ]
      refine s_reg1 ?_
      simp only [o_cont, o_callT, callV_fn, o_pure, o_eff, o_callF, o_callN, o_guard, gk_tt, gk_ff, gk_tf, gk_ft, gk_u, t_op, t_alt, t_nil, o_nil, POp.ev, Opd.ev, EOp.ev, env0, gu, gv, setD, resV, List.set, List.map, List.map_nil, List.map_cons, Option.map_none, Option.map_some, Option.some.injEq, exists_eq_left', pickV, binV, convV, load1V, max2V, min2V, nilchkV, unV, boolEq, isNilV, fadV, extV, slenV, ne_eq, not_true_eq_false, if_false, if_true, ite_true, ite_false, Bool.false_eq_true, Bool.true_eq_false, beq_true, beq_false, beq_self_eq_true, Bool.not_true, Bool.not_false, reduceCtorEq, List.getElem?_toArray, List.getElem?_cons_zero, List.getElem?_cons_succ, add1 (i := j) (by omega)]
      simp +decide only [p_seq_normal, p_seq_ret, p_seq_exit, p_block_normal, p_block_ret, p_block_exit, p_fin_ret, p_fin_normal, reduceIte, Nat.reduceEqDiff, resV, resOne, resL, gv, Option.some.injEq, exists_eq_left', Option.bind_some, Option.map_some, List.getD_cons_zero, List.getD_cons_succ]
      refine Round.mk (k2 - 1) (by omega) ⟨j + 1, b', v', _, by omega, ?_, by rcases g3 with rfl | g3 <;> omega, by omega, by rcases g3 with rfl | g3 <;> omega, hA4.chg g5 hb (fun e => hba e.symm), rfl⟩
      · rw [List.take_succ_eq_append_getElem hlt3, List.map_append, ← List.append_assoc]
        exact g2
    · have hge : j = q.length := by simp at hlt2; omega
      subst hge
      rw [List.take_length, ← prodL_take hlt'] at hv
      refine s_exit1 ?_
      simp +decide only [p_seq_normal, p_seq_ret, p_seq_exit, p_block_normal, p_block_ret, p_block_exit, p_fin_ret, p_fin_normal, reduceIte, Nat.reduceEqDiff, resV, resOne, resL, gv, Option.some.injEq, exists_eq_left', Option.bind_some, Option.map_some, List.getD_cons_zero, List.getD_cons_succ]
      refine s_reg1 ?_
      simp only [o_cont, o_callT, callV_fn, o_pure, o_eff, o_callF, o_callN, o_guard, gk_tt, gk_ff, gk_tf, gk_ft, gk_u, t_op, t_alt, t_nil, o_nil, POp.ev, Opd.ev, EOp.ev, env0, gu, gv, setD, resV, List.set, List.map, List.map_nil, List.map_cons, Option.map_none, Option.map_some, Option.some.injEq, exists_eq_left', pickV, binV, convV, load1V, max2V, min2V, nilchkV, unV, boolEq, isNilV, fadV, extV, slenV, ne_eq, not_true_eq_false, if_false, if_true, ite_true, ite_false, Bool.false_eq_true, Bool.true_eq_false, beq_true, beq_false, beq_self_eq_true, Bool.not_true, Bool.not_false, reduceCtorEq, List.getElem?_toArray, List.getElem?_cons_zero, List.getElem?_cons_succ, add1 (i := i) (by omega)]
      simp +decide only [p_seq_normal, p_seq_ret, p_seq_exit, p_block_normal, p_block_ret, p_block_exit, p_fin_ret, p_fin_normal, reduceIte, Nat.reduceEqDiff, resV, resOne, resL, gv, Option.some.injEq, exists_eq_left', Option.bind_some, Option.map_some, List.getD_cons_zero, List.getD_cons_succ]
      exact Round.mk (k - 1) (by omega) ⟨i + 1, b, v, _, _, _, _, _, by omega, hv, hb, hbH, hx3, rfl⟩
  · have hge : i = p.length := by simp at hlt; omega
    subst hge
    rw [List.take_length] at hv
    refine s_exit1 ?_
    simp +decide only [p_seq_normal, p_seq_ret, p_seq_exit, p_block_normal, p_block_ret, p_block_exit, p_fin_ret, p_fin_normal, reduceIte, Nat.reduceEqDiff, resV, resOne, resL, gv, Option.some.injEq, exists_eq_left', Option.bind_some, Option.map_some, List.getD_cons_zero, List.getD_cons_succ]
    refine s_reg ?_
    simp only [o_cont, o_callT, callV_fn, o_pure, o_eff, o_callF, o_callN, o_guard, gk_tt, gk_ff, gk_tf, gk_ft, gk_u, t_op, t_alt, t_nil, o_nil, POp.ev, Opd.ev, EOp.ev, env0, gu, gv, setD, resV, List.set, List.map, List.map_nil, List.map_cons, Option.map_none, Option.map_some, Option.some.injEq, exists_eq_left', pickV, binV, convV, load1V, max2V, min2V, nilchkV, unV, boolEq, isNilV, fadV, extV, slenV, ne_eq, not_true_eq_false, if_false, if_true, ite_true, ite_false, Bool.false_eq_true, Bool.true_eq_false, beq_true, beq_false, beq_self_eq_true, Bool.not_true, Bool.not_false, reduceCtorEq, List.getElem?_toArray, List.getElem?_cons_zero, List.getElem?_cons_succ]
    refine (collectG_ok lim v _ _ (by omega) (Vec.sl hv) (by rw [prodL_length]; omega)).mono ?_
    rintro v' H2 ⟨b', g1, g2, g3, g4⟩
    simp only [o_cont, o_callT, callV_fn, o_pure, o_eff, o_callF, o_callN, o_guard, gk_tt, gk_ff, gk_tf, gk_ft, gk_u, t_op, t_alt, t_nil, o_nil, POp.ev, Opd.ev, EOp.ev, env0, gu, gv, setD, resV, List.set, List.map, List.map_nil, List.map_cons, Option.map_none, Option.map_some, Option.some.injEq, exists_eq_left', pickV, binV, convV, load1V, max2V, min2V, nilchkV, unV, boolEq, isNilV, fadV, extV, slenV, ne_eq, not_true_eq_false, if_false, if_true, ite_true, ite_false, Bool.false_eq_true, Bool.true_eq_false, beq_true, beq_false, beq_self_eq_true, Bool.not_true, Bool.not_false, reduceCtorEq, List.getElem?_toArray, List.getElem?_cons_zero, List.getElem?_cons_succ]
    refine s_ret1 ?_
    simp +decide only [p_seq_normal, p_seq_ret, p_seq_exit, p_block_normal, p_block_ret, p_block_exit, p_fin_ret, p_fin_normal, reduceIte, Nat.reduceEqDiff, resV, resOne, resL, gv, Option.some.injEq, exists_eq_left', Option.bind_some, Option.map_some, List.getD_cons_zero, List.getD_cons_succ]
    exact ⟨b', by omega, g2, g3, hx.trans g4⟩
end Go.Proofs.Ytaimceodhhgnnaa
