/- Systems of polynomials: the specification's insertion of a term in general; no condition beyond stated ranges. -/
import Derived.Test.YtaimceodhhgnnaaT29
namespace Go.Proofs.Ytaimceodhhgnnaa
open Go.Ab
set_option linter.unusedSimpArgs false
set_option linter.unusedVariables false

def exB (t : Tm) : Prop := (-1000000 ≤ t.x ∧ t.x ≤ 1000000) ∧ (-1000000 ≤ t.y ∧ t.y ≤ 1000000) ∧ (-1000000 ≤ t.z ∧ t.z ≤ 1000000)
theorem orderG_ok (lim : Nat) (a b : Tm) (H : AHeap) (ha : exB a) (hb : exB b) : ACalls Try.prog lim n_spec_poOrder [tv a, tv b] H fun v H' => v = .int .i64 (ordT a b) ∧ Ext H H' := by
  obtain ⟨b1, b2, b3⟩ := ha
  obtain ⟨c1, c2, c3⟩ := hb
  refine is_spec_poOrder.go rfl ?_
  unfold c_spec_poOrder ordT
  refine s_reg ?_
  simp only [o_cont, o_callT, callV_fn, o_pure, o_eff, o_callF, o_callN, o_guard, gk_tt, gk_ff, gk_tf, gk_ft, gk_u, t_op, t_alt, t_nil, o_nil, POp.ev, Opd.ev, EOp.ev, env0, gu, gv, setD, resV, List.set, List.map, List.map_nil, List.map_cons, Option.map_none, Option.map_some, Option.some.injEq, exists_eq_left', pickV, binV, convV, load1V, max2V, min2V, nilchkV, unV, boolEq, isNilV, fadV, extV, slenV, ne_eq, not_true_eq_false, if_false, if_true, ite_true, ite_false, Bool.false_eq_true, Bool.true_eq_false, beq_true, beq_false, beq_self_eq_true, Bool.not_true, Bool.not_false, reduceCtorEq, List.getElem?_toArray, List.getElem?_cons_zero, List.getElem?_cons_succ, boxT]
  have hA := BoxT.mk' H a
  have hB := BoxT.mk' (H.alloc (tc a)) b
  replace hA := hA.mono hB.ext
  generalize (H.alloc (tc a)).alloc (tc b) = H1 at hA hB ⊢
  generalize (H.alloc (tc a)).next = q at hB ⊢
  generalize H.next = p at hA ⊢
  have hx := hA.ext
  have w1 : IntKind.i64.wrap (a.x - b.x) = a.x - b.x := by rw [IntKind.wrap_i64]; omega
  have w2 : IntKind.i64.wrap (a.y - b.y) = a.y - b.y := by rw [IntKind.wrap_i64]; omega
  have w3 : IntKind.i64.wrap (a.z - b.z) = a.z - b.z := by rw [IntKind.wrap_i64]; omega
  refine s_block ?_
  refine s_test1 ?_
  simp only [o_cont, o_callT, callV_fn, o_pure, o_eff, o_callF, o_callN, o_guard, gk_tt, gk_ff, gk_tf, gk_ft, gk_u, t_op, t_alt, t_nil, o_nil, POp.ev, Opd.ev, EOp.ev, env0, gu, gv, setD, resV, List.set, List.map, List.map_nil, List.map_cons, Option.map_none, Option.map_some, Option.some.injEq, exists_eq_left', pickV, binV, convV, load1V, max2V, min2V, nilchkV, unV, boolEq, isNilV, fadV, extV, slenV, ne_eq, not_true_eq_false, if_false, if_true, ite_true, ite_false, Bool.false_eq_true, Bool.true_eq_false, beq_true, beq_false, beq_self_eq_true, Bool.not_true, Bool.not_false, reduceCtorEq, List.getElem?_toArray, List.getElem?_cons_zero, List.getElem?_cons_succ, Nat.zero_add, hA.c1, hB.c1]
  refine Test.split (fun h => ?_) (fun h => ?_)
  · refine s_reg ?_
    simp only [o_cont, o_callT, callV_fn, o_pure, o_eff, o_callF, o_callN, o_guard, gk_tt, gk_ff, gk_tf, gk_ft, gk_u, t_op, t_alt, t_nil, o_nil, POp.ev, Opd.ev, EOp.ev, env0, gu, gv, setD, resV, List.set, List.map, List.map_nil, List.map_cons, Option.map_none, Option.map_some, Option.some.injEq, exists_eq_left', pickV, binV, convV, load1V, max2V, min2V, nilchkV, unV, boolEq, isNilV, fadV, extV, slenV, ne_eq, not_true_eq_false, if_false, if_true, ite_true, ite_false, Bool.false_eq_true, Bool.true_eq_false, beq_true, beq_false, beq_self_eq_true, Bool.not_true, Bool.not_false, reduceCtorEq, List.getElem?_toArray, List.getElem?_cons_zero, List.getElem?_cons_succ, Nat.zero_add, hA.c1, hB.c1, w1]
    refine (l1Sign_ok _ _ _).eq ?_
    simp only [o_cont, o_callT, callV_fn, o_pure, o_eff, o_callF, o_callN, o_guard, gk_tt, gk_ff, gk_tf, gk_ft, gk_u, t_op, t_alt, t_nil, o_nil, POp.ev, Opd.ev, EOp.ev, env0, gu, gv, setD, resV, List.set, List.map, List.map_nil, List.map_cons, Option.map_none, Option.map_some, Option.some.injEq, exists_eq_left', pickV, binV, convV, load1V, max2V, min2V, nilchkV, unV, boolEq, isNilV, fadV, extV, slenV, ne_eq, not_true_eq_false, if_false, if_true, ite_true, ite_false, Bool.false_eq_true, Bool.true_eq_false, beq_true, beq_false, beq_self_eq_true, Bool.not_true, Bool.not_false, reduceCtorEq, List.getElem?_toArray, List.getElem?_cons_zero, List.getElem?_cons_succ]
    refine s_ret1 ?_
    simp +decide only [p_seq_normal, p_seq_ret, p_seq_exit, p_block_normal, p_block_ret, p_block_exit, p_fin_ret, p_fin_normal, reduceIte, Nat.reduceEqDiff, resV, resOne, resL, gv, Option.some.injEq, exists_eq_left', Option.bind_some, Option.map_some, List.getD_cons_zero, List.getD_cons_succ]
    rw [if_pos (by simpa using h)]
    exact ⟨rfl, hx⟩
  · refine s_test1 ?_
    simp only [o_cont, o_callT, callV_fn, o_pure, o_eff, o_callF, o_callN, o_guard, gk_tt, gk_ff, gk_tf, gk_ft, gk_u, t_op, t_alt, t_nil, o_nil, POp.ev, Opd.ev, EOp.ev, env0, gu, gv, setD, resV, List.set, List.map, List.map_nil, List.map_cons, Option.map_none, Option.map_some, Option.some.injEq, exists_eq_left', pickV, binV, convV, load1V, max2V, min2V, nilchkV, unV, boolEq, isNilV, fadV, extV, slenV, ne_eq, not_true_eq_false, if_false, if_true, ite_true, ite_false, Bool.false_eq_true, Bool.true_eq_false, beq_true, beq_false, beq_self_eq_true, Bool.not_true, Bool.not_false, reduceCtorEq, List.getElem?_toArray, List.getElem?_cons_zero, List.getElem?_cons_succ, Nat.zero_add, hA.c2, hB.c2]
    refine Test.split (fun h2 => ?_) (fun h2 => ?_)
    · refine s_reg ?_
      simp only [o_cont, o_callT, callV_fn, o_pure, o_eff, o_callF, o_callN, o_guard, gk_tt, gk_ff, gk_tf, gk_ft, gk_u, t_op, t_alt, t_nil, o_nil, POp.ev, Opd.ev, EOp.ev, env0, gu, gv, setD, resV, List.set, List.map, List.map_nil, List.map_cons, Option.map_none, Option.map_some, Option.some.injEq, exists_eq_left', pickV, binV, convV, load1V, max2V, min2V, nilchkV, unV, boolEq, isNilV, fadV, extV, slenV, ne_eq, not_true_eq_false, if_false, if_true, ite_true, ite_false, Bool.false_eq_true, Bool.true_eq_false, beq_true, beq_false, beq_self_eq_true, Bool.not_true, Bool.not_false, reduceCtorEq, List.getElem?_toArray, List.getElem?_cons_zero, List.getElem?_cons_succ, Nat.zero_add, hA.c2, hB.c2, w2]
      refine (l1Sign_ok _ _ _).eq ?_
      simp only [o_cont, o_callT, callV_fn, o_pure, o_eff, o_callF, o_callN, o_guard, gk_tt, gk_ff, gk_tf, gk_ft, gk_u, t_op, t_alt, t_nil, o_nil, POp.ev, Opd.ev, EOp.ev, env0, gu, gv, setD, resV, List.set, List.map, List.map_nil, List.map_cons, Option.map_none, Option.map_some, Option.some.injEq, exists_eq_left', pickV, binV, convV, load1V, max2V, min2V, nilchkV, unV, boolEq, isNilV, fadV, extV, slenV, ne_eq, not_true_eq_false, if_false, if_true, ite_true, ite_false, Bool.false_eq_true, Bool.true_eq_false, beq_true, beq_false, beq_self_eq_true, Bool.not_true, Bool.not_false, reduceCtorEq, List.getElem?_toArray, List.getElem?_cons_zero, List.getElem?_cons_succ]
      refine s_ret1 ?_
      simp +decide only [p_seq_normal, p_seq_ret, p_seq_exit, p_block_normal, p_block_ret, p_block_exit, p_fin_ret, p_fin_normal, reduceIte, Nat.reduceEqDiff, resV, resOne, resL, gv, Option.some.injEq, exists_eq_left', Option.bind_some, Option.map_some, List.getD_cons_zero, List.getD_cons_succ]
      rw [if_neg (by simpa using h), if_pos (by simpa using h2)]
      exact ⟨rfl, hx⟩
    · refine s_skip1 ?_
      simp +decide only [p_seq_normal, p_seq_ret, p_seq_exit, p_block_normal, p_block_ret, p_block_exit, p_fin_ret, p_fin_normal, reduceIte, Nat.reduceEqDiff, resV, resOne, resL, gv, Option.some.injEq, exists_eq_left', Option.bind_some, Option.map_some, List.getD_cons_zero, List.getD_cons_succ]
      refine s_reg ?_
      simp only [o_cont, o_callT, callV_fn, o_pure, o_eff, o_callF, o_callN, o_guard, gk_tt, gk_ff, gk_tf, gk_ft, gk_u, t_op, t_alt, t_nil, o_nil, POp.ev, Opd.ev, EOp.ev, env0, gu, gv, setD, resV, List.set, List.map, List.map_nil, List.map_cons, Option.map_none, Option.map_some, Option.some.injEq, exists_eq_left', pickV, binV, convV, load1V, max2V, min2V, nilchkV, unV, boolEq, isNilV, fadV, extV, slenV, ne_eq, not_true_eq_false, if_false, if_true, ite_true, ite_false, Bool.false_eq_true, Bool.true_eq_false, beq_true, beq_false, beq_self_eq_true, Bool.not_true, Bool.not_false, reduceCtorEq, List.getElem?_toArray, List.getElem?_cons_zero, List.getElem?_cons_succ, Nat.zero_add, hA.c3, hB.c3, w3]
      refine (l1Sign_ok _ _ _).eq ?_
      simp only [o_cont, o_callT, callV_fn, o_pure, o_eff, o_callF, o_callN, o_guard, gk_tt, gk_ff, gk_tf, gk_ft, gk_u, t_op, t_alt, t_nil, o_nil, POp.ev, Opd.ev, EOp.ev, env0, gu, gv, setD, resV, List.set, List.map, List.map_nil, List.map_cons, Option.map_none, Option.map_some, Option.some.injEq, exists_eq_left', pickV, binV, convV, load1V, max2V, min2V, nilchkV, unV, boolEq, isNilV, fadV, extV, slenV, ne_eq, not_true_eq_false, if_false, if_true, ite_true, ite_false, Bool.false_eq_true, Bool.true_eq_false, beq_true, beq_false, beq_self_eq_true, Bool.not_true, Bool.not_false, reduceCtorEq, List.getElem?_toArray, List.getElem?_cons_zero, List.getElem?_cons_succ]
      refine s_ret1 ?_
      simp +decide only [p_seq_normal, p_seq_ret, p_seq_exit, p_block_normal, p_block_ret, p_block_exit, p_fin_ret, p_fin_normal, reduceIte, Nat.reduceEqDiff, resV, resOne, resL, gv, Option.some.injEq, exists_eq_left', Option.bind_some, Option.map_some, List.getD_cons_zero, List.getD_cons_succ]
      rw [if_neg (by simpa using h), if_neg (by simpa using h2)]
      exact ⟨rfl, hx⟩

/-- the insertion, by the place -/
def PutAt (t : Tm) (l : List Tm) (c : Int) (j : Nat) : Prop :=
  putF t l = l.take (posF t l) ++ (if c = 0 then [] else [{ t with c := c }]) ++ l.drop j
theorem putF_same {t : Tm} : ∀ {l : List Tm} (h : posF t l < l.length), ordT (l[posF t l]'h) t = 0 → PutAt t l (W (t.c + (l[posF t l]'h).c)) (posF t l + 1)
  | [], h, _ => by simp at h
  | x :: l, h, he => by
    unfold PutAt
    by_cases hx : ordT x t < 0
    · have e : posF t (x :: l) = posF t l + 1 := by rw [posF, if_pos hx]
      have hlt : posF t l < l.length := by rw [e] at h; simpa using h
      simp only [e, List.getElem_cons_succ] at he ⊢
      have ih := putF_same hlt he
      unfold PutAt at ih
      rw [putF, if_pos hx, ih]
      simp
    · have e : posF t (x :: l) = 0 := by rw [posF, if_neg hx]
      simp only [e, List.getElem_cons_zero] at he ⊢
      rw [putF, if_neg hx, if_pos he]
      split <;> simp
theorem putF_new {t : Tm} : ∀ {l : List Tm}, (∀ h : posF t l < l.length, ordT (l[posF t l]'h) t ≠ 0) → PutAt t l t.c (posF t l)
  | [], _ => by
    unfold PutAt putF
    split <;> simp [posF]
  | x :: l, h => by
    unfold PutAt
    by_cases hx : ordT x t < 0
    · have e : posF t (x :: l) = posF t l + 1 := by rw [posF, if_pos hx]
      have ih := putF_new (t := t) (l := l) (fun hlt => by
        have := h (by rw [e]; simpa using hlt)
        simpa only [e, List.getElem_cons_succ] using this)
      unfold PutAt at ih
      rw [putF, if_pos hx, ih, e]
      simp
    · have e : posF t (x :: l) = 0 := by rw [posF, if_neg hx]
      have he : ordT x t ≠ 0 := by simpa only [e, List.getElem_cons_zero] using h (by rw [e]; simp)
      rw [putF, if_neg hx, if_neg he, e]
      split <;> simp

theorem appendT2 {lim : Nat} {H : AHeap} {b : Nat} {v x : Value} {l m : List Tm} (h : VecT H b v l) (hx : SlT H x m) (hl : lim ≤ b) (hn : l.length + m.length ≤ 1000000) :
    ∃ v' H' b', appendH lim H 4 32 v x = some (v', H') ∧ VecT H' b' v' (l ++ m) ∧ (b' = b ∨ H.next ≤ b' ∧ b' < H'.next) ∧ Chg b H H' := by
  obtain ⟨v', H', b', h1, h2, h3, h4, h5⟩ := Vec.append h (lim := lim) hl hx (by decide) (bytes := 32) (by omega)
  have h2' : VecT H' b' v' (l ++ m) := by
    unfold VecT
    rw [List.length_append, tcs_append]
    exact h2
  exact ⟨v', H', b', h1, h2', h3.imp id fun h => by omega, h4⟩
theorem putG_ok (lim : Nat) (s : Value) (l : List Tm) (t : Tm) (H : AHeap) (hl : lim ≤ H.next) (hs : SlT H s l) (hn : l.length ≤ 10000) (hok : ∀ x ∈ l, exB x) (ht : exB t) :
    ACalls Try.prog lim n_spec_poPut [s, tv t] H fun v H' => ∃ b, H.next ≤ b ∧ b ≤ H'.next ∧ VecT H' b v (putF t l) ∧ Ext H H' := by
  refine is_spec_poPut.go rfl ?_
  unfold c_spec_poPut
  refine s_reg ?_
  simp only [o_cont, o_callT, callV_fn, o_pure, o_eff, o_callF, o_callN, o_guard, gk_tt, gk_ff, gk_tf, gk_ft, gk_u, t_op, t_alt, t_nil, o_nil, POp.ev, Opd.ev, EOp.ev, env0, gu, gv, setD, resV, List.set, List.map, List.map_nil, List.map_cons, Option.map_none, Option.map_some, Option.some.injEq, exists_eq_left', pickV, binV, convV, load1V, max2V, min2V, nilchkV, unV, boolEq, isNilV, fadV, extV, slenV, ne_eq, not_true_eq_false, if_false, if_true, ite_true, ite_false, Bool.false_eq_true, Bool.true_eq_false, beq_true, beq_false, beq_self_eq_true, Bool.not_true, Bool.not_false, reduceCtorEq, List.getElem?_toArray, List.getElem?_cons_zero, List.getElem?_cons_succ, boxT]
  have hB := BoxT.mk' H t
  generalize H.alloc (tc t) = H1 at hB ⊢
  generalize hpe : H.next = p at hB hl ⊢
  have hpl := posF_le t l
  refine s_reg ?_
  simp only [o_cont, o_callT, callV_fn, o_pure, o_eff, o_callF, o_callN, o_guard, gk_tt, gk_ff, gk_tf, gk_ft, gk_u, t_op, t_alt, t_nil, o_nil, POp.ev, Opd.ev, EOp.ev, env0, gu, gv, setD, resV, List.set, List.map, List.map_nil, List.map_cons, Option.map_none, Option.map_some, Option.some.injEq, exists_eq_left', pickV, binV, convV, load1V, max2V, min2V, nilchkV, unV, boolEq, isNilV, fadV, extV, slenV, ne_eq, not_true_eq_false, if_false, if_true, ite_true, ite_false, Bool.false_eq_true, Bool.true_eq_false, beq_true, beq_false, beq_self_eq_true, Bool.not_true, Bool.not_false, reduceCtorEq, List.getElem?_toArray, List.getElem?_cons_zero, List.getElem?_cons_succ]
  refine s_cut (fun e' H' => BoxT H H' p t ∧ e' = [s, tv t, .pointer (some ⟨p, 0, none⟩), .slice none 0 0, .int .i64 (posF t l), undef, undef]) ?_ ?_
  · refine s_block1 ?_
    refine s_loop1 (fun j e' H' => ∃ k : Nat, k + j = l.length ∧ k ≤ posF t l ∧ BoxT H H' p t ∧ e' = [s, tv t, .pointer (some ⟨p, 0, none⟩), .slice none 0 0, .int .i64 k, undef, undef]) l.length ⟨0, by omega, Nat.zero_le _, hB, rfl⟩ ?_
    clear hB
    rintro j e' H2 ⟨k, hkj, hkp, hB, rfl⟩
    have hs2 := hs.ext hB.ext
    refine s_test ?_
    by_cases hk : k < l.length
    · have d1 : decide ((k : Int) < (l.length : Int)) = true := decide_eq_true (by omega)
      obtain ⟨b1, o1, h1, a1⟩ := hs2.at hk
      have hst := posF_step (t := t) hk hkp
      simp only [o_cont, o_callT, callV_fn, o_pure, o_eff, o_callF, o_callN, o_guard, gk_tt, gk_ff, gk_tf, gk_ft, gk_u, t_op, t_alt, t_nil, o_nil, POp.ev, Opd.ev, EOp.ev, env0, gu, gv, setD, resV, List.set, List.map, List.map_nil, List.map_cons, Option.map_none, Option.map_some, Option.some.injEq, exists_eq_left', pickV, binV, convV, load1V, max2V, min2V, nilchkV, unV, boolEq, isNilV, fadV, extV, slenV, ne_eq, not_true_eq_false, if_false, if_true, ite_true, ite_false, Bool.false_eq_true, Bool.true_eq_false, beq_true, beq_false, beq_self_eq_true, Bool.not_true, Bool.not_false, reduceCtorEq, List.getElem?_toArray, List.getElem?_cons_zero, List.getElem?_cons_succ, hs.lenV, d1, h1, a1.all, hB.all]
      refine (orderG_ok _ _ _ _ (hok _ (List.getElem_mem hk)) ht).mono ?_
      rintro _ H3 ⟨rfl, hx3⟩
      have hB3 := hB.mono hx3
      simp only [o_cont, o_callT, callV_fn, o_pure, o_eff, o_callF, o_callN, o_guard, gk_tt, gk_ff, gk_tf, gk_ft, gk_u, t_op, t_alt, t_nil, o_nil, POp.ev, Opd.ev, EOp.ev, env0, gu, gv, setD, resV, List.set, List.map, List.map_nil, List.map_cons, Option.map_none, Option.map_some, Option.some.injEq, exists_eq_left', pickV, binV, convV, load1V, max2V, min2V, nilchkV, unV, boolEq, isNilV, fadV, extV, slenV, ne_eq, not_true_eq_false, if_false, if_true, ite_true, ite_false, Bool.false_eq_true, Bool.true_eq_false, beq_true, beq_false, beq_self_eq_true, Bool.not_true, Bool.not_false, reduceCtorEq, List.getElem?_toArray, List.getElem?_cons_zero, List.getElem?_cons_succ]
      refine Test.split (fun hg => ?_) (fun hg => ?_)
      · have hlt : ordT l[k] t < 0 := by simpa using hg
        rw [if_pos hlt] at hst
        refine s_skip1 ?_
        simp +decide only [p_seq_normal, p_seq_ret, p_seq_exit, p_block_normal, p_block_ret, p_block_exit, p_fin_ret, p_fin_normal, reduceIte, Nat.reduceEqDiff, resV, resOne, resL, gv, Option.some.injEq, exists_eq_left', Option.bind_some, Option.map_some, List.getD_cons_zero, List.getD_cons_succ]
        refine s_block1 ?_
        refine s_reg1 ?_
        simp only [o_cont, o_callT, callV_fn, o_pure, o_eff, o_callF, o_callN, o_guard, gk_tt, gk_ff, gk_tf, gk_ft, gk_u, t_op, t_alt, t_nil, o_nil, POp.ev, Opd.ev, EOp.ev, env0, gu, gv, setD, resV, List.set, List.map, List.map_nil, List.map_cons, Option.map_none, Option.map_some, Option.some.injEq, exists_eq_left', pickV, binV, convV, load1V, max2V, min2V, nilchkV, unV, boolEq, isNilV, fadV, extV, slenV, ne_eq, not_true_eq_false, if_false, if_true, ite_true, ite_false, Bool.false_eq_true, Bool.true_eq_false, beq_true, beq_false, beq_self_eq_true, Bool.not_true, Bool.not_false, reduceCtorEq, List.getElem?_toArray, List.getElem?_cons_zero, List.getElem?_cons_succ, add1 (i := k) (by omega)]
        simp +decide only [p_seq_normal, p_seq_ret, p_seq_exit, p_block_normal, p_block_ret, p_block_exit, p_fin_ret, p_fin_normal, reduceIte, Nat.reduceEqDiff, resV, resOne, resL, gv, Option.some.injEq, exists_eq_left', Option.bind_some, Option.map_some, List.getD_cons_zero, List.getD_cons_succ]
        exact Round.mk (j - 1) (by omega) ⟨k + 1, by omega, hst, hB3, rfl⟩
      · have hge3 : ¬ ordT l[k] t < 0 := by simpa using hg
        rw [if_neg hge3] at hst
        refine s_exit1 ?_
        simp +decide only [p_seq_normal, p_seq_ret, p_seq_exit, p_block_normal, p_block_ret, p_block_exit, p_fin_ret, p_fin_normal, reduceIte, Nat.reduceEqDiff, resV, resOne, resL, gv, Option.some.injEq, exists_eq_left', Option.bind_some, Option.map_some, List.getD_cons_zero, List.getD_cons_succ]
        rw [← hst]
        exact ⟨hB3, rfl⟩
    · have d1 : decide ((k : Int) < (l.length : Int)) = false := decide_eq_false (by omega)
      simp only [o_cont, o_callT, callV_fn, o_pure, o_eff, o_callF, o_callN, o_guard, gk_tt, gk_ff, gk_tf, gk_ft, gk_u, t_op, t_alt, t_nil, o_nil, POp.ev, Opd.ev, EOp.ev, env0, gu, gv, setD, resV, List.set, List.map, List.map_nil, List.map_cons, Option.map_none, Option.map_some, Option.some.injEq, exists_eq_left', pickV, binV, convV, load1V, max2V, min2V, nilchkV, unV, boolEq, isNilV, fadV, extV, slenV, ne_eq, not_true_eq_false, if_false, if_true, ite_true, ite_false, Bool.false_eq_true, Bool.true_eq_false, beq_true, beq_false, beq_self_eq_true, Bool.not_true, Bool.not_false, reduceCtorEq, List.getElem?_toArray, List.getElem?_cons_zero, List.getElem?_cons_succ, hs.lenV, d1]
      refine Test.false_ (s_exit1 ?_)
      simp +decide only [p_seq_normal, p_seq_ret, p_seq_exit, p_block_normal, p_block_ret, p_block_exit, p_fin_ret, p_fin_normal, reduceIte, Nat.reduceEqDiff, resV, resOne, resL, gv, Option.some.injEq, exists_eq_left', Option.bind_some, Option.map_some, List.getD_cons_zero, List.getD_cons_succ]
      have : k = posF t l := by omega
      rw [← this]
      exact ⟨hB, rfl⟩
  clear hB
  rintro e'' H3 ⟨hB3, rfl⟩
  have hge := hB3.ge
  have hnx3 := hB3.ext.next
  have hs3 := hs.ext hB3.ext
  obtain ⟨⟨v1, m1, m2⟩, v2, m3, m4⟩ := slcT hs3 hpl
  refine s_reg ?_
  simp only [o_cont, o_callT, callV_fn, o_pure, o_eff, o_callF, o_callN, o_guard, gk_tt, gk_ff, gk_tf, gk_ft, gk_u, t_op, t_alt, t_nil, o_nil, POp.ev, Opd.ev, EOp.ev, env0, gu, gv, setD, resV, List.set, List.map, List.map_nil, List.map_cons, Option.map_none, Option.map_some, Option.some.injEq, exists_eq_left', pickV, binV, convV, load1V, max2V, min2V, nilchkV, unV, boolEq, isNilV, fadV, extV, slenV, ne_eq, not_true_eq_false, if_false, if_true, ite_true, ite_false, Bool.false_eq_true, Bool.true_eq_false, beq_true, beq_false, beq_self_eq_true, Bool.not_true, Bool.not_false, reduceCtorEq, List.getElem?_toArray, List.getElem?_cons_zero, List.getElem?_cons_succ, m3]
  refine s_cut (fun e' H4 => ∃ (c : Int) (j : Nat) (v5 : Value), PutAt t l c j ∧ SlT H4 v5 (l.drop j) ∧ Ext H H4 ∧ BoxT H H4 p { t with c := c } ∧ e' = [s, tv t, .pointer (some ⟨p, 0, none⟩), .slice none 0 0, .int .i64 (posF t l), v5, undef]) ?_ ?_
  · refine s_test1 ?_
    by_cases hk : posF t l < l.length
    · have d1 : decide ((posF t l : Int) < (l.length : Int)) = true := decide_eq_true (by omega)
      obtain ⟨b1, o1, h1, a1⟩ := hs3.at hk
      simp only [o_cont, o_callT, callV_fn, o_pure, o_eff, o_callF, o_callN, o_guard, gk_tt, gk_ff, gk_tf, gk_ft, gk_u, t_op, t_alt, t_nil, o_nil, POp.ev, Opd.ev, EOp.ev, env0, gu, gv, setD, resV, List.set, List.map, List.map_nil, List.map_cons, Option.map_none, Option.map_some, Option.some.injEq, exists_eq_left', pickV, binV, convV, load1V, max2V, min2V, nilchkV, unV, boolEq, isNilV, fadV, extV, slenV, ne_eq, not_true_eq_false, if_false, if_true, ite_true, ite_false, Bool.false_eq_true, Bool.true_eq_false, beq_true, beq_false, beq_self_eq_true, Bool.not_true, Bool.not_false, reduceCtorEq, List.getElem?_toArray, List.getElem?_cons_zero, List.getElem?_cons_succ, hs.lenV, d1, h1, a1.all, hB3.all]
      refine (orderG_ok _ _ _ _ (hok _ (List.getElem_mem hk)) ht).mono ?_
      rintro _ H4 ⟨rfl, hx4⟩
      have hB4 := hB3.mono hx4
      have hs4 := hs3.ext hx4
      simp only [o_cont, o_callT, callV_fn, o_pure, o_eff, o_callF, o_callN, o_guard, gk_tt, gk_ff, gk_tf, gk_ft, gk_u, t_op, t_alt, t_nil, o_nil, POp.ev, Opd.ev, EOp.ev, env0, gu, gv, setD, resV, List.set, List.map, List.map_nil, List.map_cons, Option.map_none, Option.map_some, Option.some.injEq, exists_eq_left', pickV, binV, convV, load1V, max2V, min2V, nilchkV, unV, boolEq, isNilV, fadV, extV, slenV, ne_eq, not_true_eq_false, if_false, if_true, ite_true, ite_false, Bool.false_eq_true, Bool.true_eq_false, beq_true, beq_false, beq_self_eq_true, Bool.not_true, Bool.not_false, reduceCtorEq, List.getElem?_toArray, List.getElem?_cons_zero, List.getElem?_cons_succ]
      refine Test.split (fun hg => ?_) (fun hg => ?_)
      · have hze : ordT l[posF t l] t = 0 := by simpa using hg
        obtain ⟨b4, o4, h4, a4⟩ := hs4.at hk
        obtain ⟨cs4, t4, hB5⟩ := hB4.put0 (lim := lim) (by omega) (W (t.c + l[posF t l].c))
        have hs5 := hs.ext hB5.ext
        obtain ⟨_, v6, m6, m7⟩ := slcT hs5 (k := posF t l + 1) (by omega)
        refine s_reg ?_
        simp only [o_cont, o_callT, callV_fn, o_pure, o_eff, o_callF, o_callN, o_guard, gk_tt, gk_ff, gk_tf, gk_ft, gk_u, t_op, t_alt, t_nil, o_nil, POp.ev, Opd.ev, EOp.ev, env0, gu, gv, setD, resV, List.set, List.map, List.map_nil, List.map_cons, Option.map_none, Option.map_some, Option.some.injEq, exists_eq_left', pickV, binV, convV, load1V, max2V, min2V, nilchkV, unV, boolEq, isNilV, fadV, extV, slenV, ne_eq, not_true_eq_false, if_false, if_true, ite_true, ite_false, Bool.false_eq_true, Bool.true_eq_false, beq_true, beq_false, beq_self_eq_true, Bool.not_true, Bool.not_false, reduceCtorEq, List.getElem?_toArray, List.getElem?_cons_zero, List.getElem?_cons_succ, Nat.add_zero, Nat.zero_add, hB4.c0, h4, a4.c, t4]
        refine s_reg1 ?_
        simp only [o_cont, o_callT, callV_fn, o_pure, o_eff, o_callF, o_callN, o_guard, gk_tt, gk_ff, gk_tf, gk_ft, gk_u, t_op, t_alt, t_nil, o_nil, POp.ev, Opd.ev, EOp.ev, env0, gu, gv, setD, resV, List.set, List.map, List.map_nil, List.map_cons, Option.map_none, Option.map_some, Option.some.injEq, exists_eq_left', pickV, binV, convV, load1V, max2V, min2V, nilchkV, unV, boolEq, isNilV, fadV, extV, slenV, ne_eq, not_true_eq_false, if_false, if_true, ite_true, ite_false, Bool.false_eq_true, Bool.true_eq_false, beq_true, beq_false, beq_self_eq_true, Bool.not_true, Bool.not_false, reduceCtorEq, List.getElem?_toArray, List.getElem?_cons_zero, List.getElem?_cons_succ, add1 (i := posF t l) (by omega), m6]
        simp +decide only [p_seq_normal, p_seq_ret, p_seq_exit, p_block_normal, p_block_ret, p_block_exit, p_fin_ret, p_fin_normal, reduceIte, Nat.reduceEqDiff, resV, resOne, resL, gv, Option.some.injEq, exists_eq_left', Option.bind_some, Option.map_some, List.getD_cons_zero, List.getD_cons_succ]
        exact ⟨_, _, _, putF_same hk hze, m7, hB5.ext, hB5, rfl⟩
      · have hze : ordT l[posF t l] t ≠ 0 := by simpa using hg
        refine s_skip1 ?_
        simp +decide only [p_seq_normal, p_seq_ret, p_seq_exit, p_block_normal, p_block_ret, p_block_exit, p_fin_ret, p_fin_normal, reduceIte, Nat.reduceEqDiff, resV, resOne, resL, gv, Option.some.injEq, exists_eq_left', Option.bind_some, Option.map_some, List.getD_cons_zero, List.getD_cons_succ]
        exact ⟨t.c, _, _, putF_new (fun _ => hze), m4.ext hx4, hB4.ext, hB4, rfl⟩
    · have d1 : decide ((posF t l : Int) < (l.length : Int)) = false := decide_eq_false (by omega)
      simp only [o_cont, o_callT, callV_fn, o_pure, o_eff, o_callF, o_callN, o_guard, gk_tt, gk_ff, gk_tf, gk_ft, gk_u, t_op, t_alt, t_nil, o_nil, POp.ev, Opd.ev, EOp.ev, env0, gu, gv, setD, resV, List.set, List.map, List.map_nil, List.map_cons, Option.map_none, Option.map_some, Option.some.injEq, exists_eq_left', pickV, binV, convV, load1V, max2V, min2V, nilchkV, unV, boolEq, isNilV, fadV, extV, slenV, ne_eq, not_true_eq_false, if_false, if_true, ite_true, ite_false, Bool.false_eq_true, Bool.true_eq_false, beq_true, beq_false, beq_self_eq_true, Bool.not_true, Bool.not_false, reduceCtorEq, List.getElem?_toArray, List.getElem?_cons_zero, List.getElem?_cons_succ, hs.lenV, d1]
      refine Test.false_ (s_skip1 ?_)
      simp +decide only [p_seq_normal, p_seq_ret, p_seq_exit, p_block_normal, p_block_ret, p_block_exit, p_fin_ret, p_fin_normal, reduceIte, Nat.reduceEqDiff, resV, resOne, resL, gv, Option.some.injEq, exists_eq_left', Option.bind_some, Option.map_some, List.getD_cons_zero, List.getD_cons_succ]
      exact ⟨t.c, _, _, putF_new (fun h => absurd h hk), m4, hB3.ext, hB3, rfl⟩
  clear hB3 m4 m3 v2 m1 m2 v1 hnx3 hs3
  rintro e'' H4 ⟨c, j, v2, hput, m4, hx4, hB4, rfl⟩
  have hnx4 := hx4.next
  have hs4 := hs.ext hx4
  obtain ⟨⟨v1, m1, m2⟩, _⟩ := slcT hs4 hpl
  obtain ⟨v5, H5, b5, g1, g2, g3, g4, g5⟩ := own_terms (lim := lim) (by omega) m2 (by simp; omega)
  have hB5 := hB4.mono g5
  refine s_reg ?_
  simp only [o_cont, o_callT, callV_fn, o_pure, o_eff, o_callF, o_callN, o_guard, gk_tt, gk_ff, gk_tf, gk_ft, gk_u, t_op, t_alt, t_nil, o_nil, POp.ev, Opd.ev, EOp.ev, env0, gu, gv, setD, resV, List.set, List.map, List.map_nil, List.map_cons, Option.map_none, Option.map_some, Option.some.injEq, exists_eq_left', pickV, binV, convV, load1V, max2V, min2V, nilchkV, unV, boolEq, isNilV, fadV, extV, slenV, ne_eq, not_true_eq_false, if_false, if_true, ite_true, ite_false, Bool.false_eq_true, Bool.true_eq_false, beq_true, beq_false, beq_self_eq_true, Bool.not_true, Bool.not_false, reduceCtorEq, List.getElem?_toArray, List.getElem?_cons_zero, List.getElem?_cons_succ, bslice0, m1, g1]
  refine s_cut (fun e' H6 => ∃ (b6 : Nat) (v6 : Value), VecT H6 b6 v6 (l.take (posF t l) ++ if c = 0 then [] else [{ t with c := c }]) ∧ H4.next ≤ b6 ∧ b6 < H6.next ∧ Ext H4 H6 ∧ e' = [s, tv t, .pointer (some ⟨p, 0, none⟩), .slice none 0 0, .int .i64 (posF t l), v2, v6]) ?_ ?_
  · refine s_test1 ?_
    simp only [o_cont, o_callT, callV_fn, o_pure, o_eff, o_callF, o_callN, o_guard, gk_tt, gk_ff, gk_tf, gk_ft, gk_u, t_op, t_alt, t_nil, o_nil, POp.ev, Opd.ev, EOp.ev, env0, gu, gv, setD, resV, List.set, List.map, List.map_nil, List.map_cons, Option.map_none, Option.map_some, Option.some.injEq, exists_eq_left', pickV, binV, convV, load1V, max2V, min2V, nilchkV, unV, boolEq, isNilV, fadV, extV, slenV, ne_eq, not_true_eq_false, if_false, if_true, ite_true, ite_false, Bool.false_eq_true, Bool.true_eq_false, beq_true, beq_false, beq_self_eq_true, Bool.not_true, Bool.not_false, reduceCtorEq, List.getElem?_toArray, List.getElem?_cons_zero, List.getElem?_cons_succ, Nat.zero_add, hB5.c0]
    refine Test.split (fun hg => ?_) (fun hg => ?_)
    · have hc : c ≠ 0 := by simpa using hg
      obtain ⟨v6, H6, b6, q1, q2, q3, q4, q5⟩ := pushT (lim := lim) g2 { t with c := c } (by omega) (by simp; omega)
      refine s_reg1 ?_
      simp only [o_cont, o_callT, callV_fn, o_pure, o_eff, o_callF, o_callN, o_guard, gk_tt, gk_ff, gk_tf, gk_ft, gk_u, t_op, t_alt, t_nil, o_nil, POp.ev, Opd.ev, EOp.ev, env0, gu, gv, setD, resV, List.set, List.map, List.map_nil, List.map_cons, Option.map_none, Option.map_some, Option.some.injEq, exists_eq_left', pickV, binV, convV, load1V, max2V, min2V, nilchkV, unV, boolEq, isNilV, fadV, extV, slenV, ne_eq, not_true_eq_false, if_false, if_true, ite_true, ite_false, Bool.false_eq_true, Bool.true_eq_false, beq_true, beq_false, beq_self_eq_true, Bool.not_true, Bool.not_false, reduceCtorEq, List.getElem?_toArray, List.getElem?_cons_zero, List.getElem?_cons_succ, hB5.all, bsliceT, q1]
      simp +decide only [p_seq_normal, p_seq_ret, p_seq_exit, p_block_normal, p_block_ret, p_block_exit, p_fin_ret, p_fin_normal, reduceIte, Nat.reduceEqDiff, resV, resOne, resL, gv, Option.some.injEq, exists_eq_left', Option.bind_some, Option.map_some, List.getD_cons_zero, List.getD_cons_succ]
      rw [if_neg hc]
      exact ⟨b6, v6, q2, by rcases q3 with rfl | q3; exact g3; have := g5.next; omega, q4, Chg.ext g5 q5 g3, rfl⟩
    · have hc : c = 0 := by simpa using hg
      refine s_skip1 ?_
      simp +decide only [p_seq_normal, p_seq_ret, p_seq_exit, p_block_normal, p_block_ret, p_block_exit, p_fin_ret, p_fin_normal, reduceIte, Nat.reduceEqDiff, resV, resOne, resL, gv, Option.some.injEq, exists_eq_left', Option.bind_some, Option.map_some, List.getD_cons_zero, List.getD_cons_succ]
      rw [if_pos hc, List.append_nil]
      exact ⟨b5, v5, g2, g3, g4, g5, rfl⟩
  rintro e'' H6 ⟨b6, v6, q2, q3, q4, hx6, rfl⟩
  have hlen : (l.take (posF t l) ++ if c = 0 then [] else [{ t with c := c }]).length ≤ 10001 := by
    rw [List.length_append, List.length_take]
    split <;> simp <;> omega
  obtain ⟨v7, H7, b7, r1, r2, r3, r5⟩ := appendT2 (lim := lim) q2 (m4.ext hx6) (by omega) (by simp only [List.length_drop]; omega)
  have hx7 : Ext H4 H7 := Chg.ext hx6 r5 q3
  have hn6 := hx6.next
  have hn7 := r5.next
  have hb7 : H4.next ≤ b7 ∧ b7 ≤ H7.next := by rcases r3 with rfl | r3 <;> omega
  refine s_reg ?_
  simp only [o_cont, o_callT, callV_fn, o_pure, o_eff, o_callF, o_callN, o_guard, gk_tt, gk_ff, gk_tf, gk_ft, gk_u, t_op, t_alt, t_nil, o_nil, POp.ev, Opd.ev, EOp.ev, env0, gu, gv, setD, resV, List.set, List.map, List.map_nil, List.map_cons, Option.map_none, Option.map_some, Option.some.injEq, exists_eq_left', pickV, binV, convV, load1V, max2V, min2V, nilchkV, unV, boolEq, isNilV, fadV, extV, slenV, ne_eq, not_true_eq_false, if_false, if_true, ite_true, ite_false, Bool.false_eq_true, Bool.true_eq_false, beq_true, beq_false, beq_self_eq_true, Bool.not_true, Bool.not_false, reduceCtorEq, List.getElem?_toArray, List.getElem?_cons_zero, List.getElem?_cons_succ, r1]
  refine s_ret1 ?_
  simp +decide only [p_seq_normal, p_seq_ret, p_seq_exit, p_block_normal, p_block_ret, p_block_exit, p_fin_ret, p_fin_normal, reduceIte, Nat.reduceEqDiff, resV, resOne, resL, gv, Option.some.injEq, exists_eq_left', Option.bind_some, Option.map_some, List.getD_cons_zero, List.getD_cons_succ]
  unfold PutAt at hput
  rw [hput]
  exact ⟨b7, by omega, hb7.2, r2, hx4.trans hx7⟩
end Go.Proofs.Ytaimceodhhgnnaa
