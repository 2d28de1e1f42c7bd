/- Terms collected, in general: sorted, equal ones added, zeros left out; no condition beyond stated lengths. -/
import Derived.Test.YtaimceodhhgnnaaT27
namespace Go.Proofs.Ytaimceodhhgnnaa
open Go.Ab
set_option linter.unusedSimpArgs false
set_option linter.unusedVariables false

theorem s_cut0 {P : Program} {lim : Nat} {Q : Post} {e : List Value} {H : AHeap} {a : ACode} (I : List Value → AHeap → Prop) (h : awp P lim a (Post.seq I (fun _ _ _ => False)) e H) (h1 : ∀ e' H', I e' H' → Q .normal e' H') : awp P lim a Q e H := by
  refine awp.mono a ?_ h
  intro ex e H hp
  cases ex with
  | normal => exact h1 e H hp
  | _ => exact hp.elim
abbrev W (n : Int) : Int := IntKind.i64.wrap n
def mrgS (Q : List Tm) (o : Tm) : List Tm → List Tm
  | [] => Q ++ [o]
  | t :: l => if ordT o t = 0 then mrgS Q { o with c := W (o.c + t.c) } l else mrgS (Q ++ [o]) t l
def mrg : List Tm → List Tm
  | [] => []
  | t :: l => mrgS [] t l
def nzF (l : List Tm) : List Tm := l.filter fun t => !(t.c == 0)
def coll (l : List Tm) : List Tm := nzF (mrg (isortF [] l))
theorem mrgS_length : ∀ (l Q : List Tm) (o : Tm), (mrgS Q o l).length ≤ Q.length + 1 + l.length
  | [], Q, o => by simp [mrgS]
  | t :: l, Q, o => by
    unfold mrgS
    split
    · have := mrgS_length l Q { o with c := W (o.c + t.c) }; simp; omega
    · have := mrgS_length l (Q ++ [o]) t; simp at this; simp; omega
theorem mrg_length (l : List Tm) : (mrg l).length ≤ l.length := by
  cases l with
  | nil => simp [mrg]
  | cons t l => have := mrgS_length l [] t; simp [mrg] at this ⊢; omega
theorem coll_length (l : List Tm) : (coll l).length ≤ l.length := by
  have h1 := mrg_length (isortF [] l)
  rw [isort_length] at h1
  exact Nat.le_trans (List.length_filter_le _ _) h1

/-- a list of one's own, cut; what is behind is cleared -/
theorem VecT.cut {lim : Nat} {H : AHeap} {b : Nat} {v : Value} {l : List Tm} (h : VecT H b v l) (hl : lim ≤ b) {k : Nat} (hk : k ≤ l.length) :
    ∃ vd H' vk, slcV 4 v (some (.int .i64 k)) none none = some vd ∧ clearH lim H [.int .i64 0, .int .i64 0, .int .i64 0, .int .i64 0] vd = some (undef, H') ∧ slcV 4 v none (some (.int .i64 k)) none = some vk ∧ VecT H' b vk (l.take k) ∧ Chg b H H' := by
  have hlk : (l.take k).length = k := by simp; omega
  have e10 : ¬ ((k : Int) < 0) := by omega
  rcases h with ⟨rfl, h2, h3⟩ | ⟨c, sp, rest, rfl, hsp, hb, hblk, hcl, hc, hcr⟩
  · have hk0 : k = 0 := by omega
    subst hk0
    exact ⟨.slice none 0 0, H, .slice none 0 0, rfl, rfl, rfl, .inl ⟨rfl, by simp, by simp [tcs]⟩, Chg.refl _ _⟩
  · have hB : ∀ (x y : Nat), x ≤ y → sliceB (.int .i64 x) y = some x := by
      intro x y hxy
      simp [sliceB, intV, hxy]
    have hsp' : sp = some 0 ∨ sp = some 4 := hsp
    have s1 : slcV 4 (.slice (some ⟨b, 0, sp⟩) l.length c) (some (.int .i64 k)) none none = some (.slice (some ⟨b, 0 + k * 4, sp⟩) (l.length - k) (c - k)) := by
      simp only [slcV, bounds, hB k l.length hk, Option.bind_some, if_pos hsp', Option.isSome_none, Bool.false_eq_true, if_false]
    have s2 : slcV 4 (.slice (some ⟨b, 0, sp⟩) l.length c) none (some (.int .i64 k)) none = some (.slice (some ⟨b, 0, sp⟩) k c) := by
      simp only [slcV, bounds, hB k c (by omega), Option.bind_some, if_pos hsp', Option.isSome_none, Bool.false_eq_true, if_false, Nat.zero_mul, Nat.add_zero, Nat.sub_zero]
    have tl := tcs_length l
    have hdl : ∀ rest', tcs l ++ rest' = tcs (l.take k) ++ (tcs (l.drop k) ++ rest') := by
      intro rest'
      rw [← List.append_assoc, ← tcs_append, List.take_append_drop]
    have tk : (tcs (l.take k)).length = k * 4 := by rw [tcs_length, hlk]
    have td : (tcs (l.drop k)).length = (l.length - k) * 4 := by rw [tcs_length]; simp
    have vec : ∀ (H' : AHeap) (r : List Value), H'.next = H.next → H'.blk b = some (tcs (l.take k) ++ r) → r.length = (l.length - k) * 4 + rest.length → VecT H' b (.slice (some ⟨b, 0, sp⟩) k c) (l.take k) := by
      intro H' r hn hbk hr
      refine .inr ⟨c, sp, r, by rw [hlk], hsp, by omega, hbk, by rw [tcs_length], by rw [hlk]; omega, ?_⟩
      rw [hlk, hr]
      omega
    by_cases h0 : l.length - k = 0
    · refine ⟨_, H, _, s1, ?_, s2, vec H _ rfl (by rw [hblk, hdl]) (by simp [td]), Chg.refl _ _⟩
      simp [clearH, h0, undef]
    · refine ⟨_, _, _, s1, ?_, s2, vec (H.put b (putL (tcs l ++ rest) (0 + k * 4) (zerosL (l.length - k) [.int .i64 0, .int .i64 0, .int .i64 0, .int .i64 0]))) ((zerosL (l.length - k) [.int .i64 0, .int .i64 0, .int .i64 0, .int .i64 0]) ++ rest) rfl ?_ ?_, Chg.put _ _ _⟩
      · simp only [clearH, if_neg h0, if_pos hl, hblk, Option.bind_some]
        rw [if_pos]
        · rfl
        · simp [tl]; omega
      · rw [put_same]
        rw [hdl rest, Nat.zero_add, ← tk]
        congr 1
        unfold putL
        have zl : (zerosL (l.length - k) [Value.int .i64 0, .int .i64 0, .int .i64 0, .int .i64 0]).length = (tcs (l.drop k)).length := by rw [zerosL_length, td]; rfl
        rw [List.take_left, zl, List.drop_append, List.drop_of_length_le (by omega), List.nil_append, Nat.add_sub_cancel_left, List.drop_left, List.append_assoc]
      · rw [List.length_append, zerosL_length]
        rfl

/-- where the first 0 is -/
def FirstZ (l : List Tm) (r : Int) : Prop := (r = -1 ∧ ∀ t ∈ l, t.c ≠ 0) ∨ ∃ i : Nat, r = (i : Int) ∧ i < l.length ∧ (∀ t ∈ l.take i, t.c ≠ 0) ∧ ∃ h : i < l.length, (l[i]'h).c = 0
theorem indexFuncG_ok (lim : Nat) (s : Value) (l : List Tm) (H : AHeap) (hs : SlT H s l) (hn : l.length ≤ 1000000) :
    ACalls Try.prog lim n_slices_IndexFunc_S_impl_Term_impl_Term [s, delF] H fun v H' => ∃ r, v = .int .i64 r ∧ FirstZ l r ∧ Ext H H' := by
  refine is_slices_IndexFunc_S_impl_Term_impl_Term.go rfl ?_
  unfold c_slices_IndexFunc_S_impl_Term_impl_Term
  refine s_reg ?_
  simp only [o_cont, o_callT, callV_fn, o_pure, o_eff, o_callF, o_callN, o_guard, gk_tt, gk_ff, gk_tf, gk_ft, gk_u, t_op, t_alt, t_nil, o_nil, POp.ev, Opd.ev, EOp.ev, env0, gu, gv, setD, resV, List.set, List.map, List.map_nil, List.map_cons, Option.map_none, Option.map_some, Option.some.injEq, exists_eq_left', pickV, binV, convV, load1V, max2V, min2V, nilchkV, unV, boolEq, isNilV, fadV, extV, slenV, ne_eq, not_true_eq_false, if_false, if_true, ite_true, ite_false, Bool.false_eq_true, Bool.true_eq_false, beq_true, beq_false, beq_self_eq_true, Bool.not_true, Bool.not_false, reduceCtorEq, List.getElem?_toArray, List.getElem?_cons_zero, List.getElem?_cons_succ]
  refine s_assoc (s_reg ?_)
  simp only [o_cont, o_callT, callV_fn, o_pure, o_eff, o_callF, o_callN, o_guard, gk_tt, gk_ff, gk_tf, gk_ft, gk_u, t_op, t_alt, t_nil, o_nil, POp.ev, Opd.ev, EOp.ev, env0, gu, gv, setD, resV, List.set, List.map, List.map_nil, List.map_cons, Option.map_none, Option.map_some, Option.some.injEq, exists_eq_left', pickV, binV, convV, load1V, max2V, min2V, nilchkV, unV, boolEq, isNilV, fadV, extV, slenV, ne_eq, not_true_eq_false, if_false, if_true, ite_true, ite_false, Bool.false_eq_true, Bool.true_eq_false, beq_true, beq_false, beq_self_eq_true, Bool.not_true, Bool.not_false, reduceCtorEq, List.getElem?_toArray, List.getElem?_cons_zero, List.getElem?_cons_succ, hs.lenV]
  refine s_block ?_
  refine s_loop1 (fun k e' H' => ∃ (i : Nat) (x : Value), i + k = l.length ∧ (∀ t ∈ l.take i, t.c ≠ 0) ∧ Ext H H' ∧ e' = [s, delF, .int .i64 0, x, .int .i64 l.length, .int .i64 i]) l.length ⟨0, _, by omega, by simp, Ext.refl _, rfl⟩ ?_
  rintro k e' H' ⟨i, x, hik, hz, hx, rfl⟩
  refine s_test ?_
  simp only [o_cont, o_callT, callV_fn, o_pure, o_eff, o_callF, o_callN, o_guard, gk_tt, gk_ff, gk_tf, gk_ft, gk_u, t_op, t_alt, t_nil, o_nil, POp.ev, Opd.ev, EOp.ev, env0, gu, gv, setD, resV, List.set, List.map, List.map_nil, List.map_cons, Option.map_none, Option.map_some, Option.some.injEq, exists_eq_left', pickV, binV, convV, load1V, max2V, min2V, nilchkV, unV, boolEq, isNilV, fadV, extV, slenV, ne_eq, not_true_eq_false, if_false, if_true, ite_true, ite_false, Bool.false_eq_true, Bool.true_eq_false, beq_true, beq_false, beq_self_eq_true, Bool.not_true, Bool.not_false, reduceCtorEq, List.getElem?_toArray, List.getElem?_cons_zero, List.getElem?_cons_succ]
  refine Test.split (fun hlt => ?_) (fun hlt => ?_)
  · have hlt' : i < l.length := by simpa using hlt
    obtain ⟨b1, o1, h1, a1⟩ := (hs.ext hx).at hlt'
    refine s_skip1 ?_
    simp +decide only [p_seq_normal, p_seq_ret, p_seq_exit, p_block_normal, p_block_ret, p_block_exit, p_fin_ret, p_fin_normal, reduceIte, Nat.reduceEqDiff, resV, resOne, resL, gv, Option.some.injEq, exists_eq_left', Option.bind_some, Option.map_some, List.getD_cons_zero, List.getD_cons_succ]
    refine s_block ?_
    refine s_reg ?_
    simp only [o_cont, o_callT, callV_fn, o_pure, o_eff, o_callF, o_callN, o_guard, gk_tt, gk_ff, gk_tf, gk_ft, gk_u, t_op, t_alt, t_nil, o_nil, POp.ev, Opd.ev, EOp.ev, env0, gu, gv, setD, resV, List.set, List.map, List.map_nil, List.map_cons, Option.map_none, Option.map_some, Option.some.injEq, exists_eq_left', pickV, binV, convV, load1V, max2V, min2V, nilchkV, unV, boolEq, isNilV, fadV, extV, slenV, ne_eq, not_true_eq_false, if_false, if_true, ite_true, ite_false, Bool.false_eq_true, Bool.true_eq_false, beq_true, beq_false, beq_self_eq_true, Bool.not_true, Bool.not_false, reduceCtorEq, List.getElem?_toArray, List.getElem?_cons_zero, List.getElem?_cons_succ]
    refine s_test1 ?_
    simp only [o_cont, o_callT, callV_fn, o_pure, o_eff, o_callF, o_callN, o_guard, gk_tt, gk_ff, gk_tf, gk_ft, gk_u, t_op, t_alt, t_nil, o_nil, POp.ev, Opd.ev, EOp.ev, env0, gu, gv, setD, resV, List.set, List.map, List.map_nil, List.map_cons, Option.map_none, Option.map_some, Option.some.injEq, exists_eq_left', pickV, binV, convV, load1V, max2V, min2V, nilchkV, unV, boolEq, isNilV, fadV, extV, slenV, ne_eq, not_true_eq_false, if_false, if_true, ite_true, ite_false, Bool.false_eq_true, Bool.true_eq_false, beq_true, beq_false, beq_self_eq_true, Bool.not_true, Bool.not_false, reduceCtorEq, List.getElem?_toArray, List.getElem?_cons_zero, List.getElem?_cons_succ, h1, a1.all]
    refine (collect1_ok _ _ _).mono ?_
    rintro _ H2 ⟨rfl, hx2⟩
    simp only [o_cont, o_callT, callV_fn, o_pure, o_eff, o_callF, o_callN, o_guard, gk_tt, gk_ff, gk_tf, gk_ft, gk_u, t_op, t_alt, t_nil, o_nil, POp.ev, Opd.ev, EOp.ev, env0, gu, gv, setD, resV, List.set, List.map, List.map_nil, List.map_cons, Option.map_none, Option.map_some, Option.some.injEq, exists_eq_left', pickV, binV, convV, load1V, max2V, min2V, nilchkV, unV, boolEq, isNilV, fadV, extV, slenV, ne_eq, not_true_eq_false, if_false, if_true, ite_true, ite_false, Bool.false_eq_true, Bool.true_eq_false, beq_true, beq_false, beq_self_eq_true, Bool.not_true, Bool.not_false, reduceCtorEq, List.getElem?_toArray, List.getElem?_cons_zero, List.getElem?_cons_succ]
    refine Test.split (fun hg => ?_) (fun hg => ?_)
    · have hg' : (l[i]'hlt').c = 0 := by simpa using hg
      refine s_reg ?_
      simp only [o_cont, o_callT, callV_fn, o_pure, o_eff, o_callF, o_callN, o_guard, gk_tt, gk_ff, gk_tf, gk_ft, gk_u, t_op, t_alt, t_nil, o_nil, POp.ev, Opd.ev, EOp.ev, env0, gu, gv, setD, resV, List.set, List.map, List.map_nil, List.map_cons, Option.map_none, Option.map_some, Option.some.injEq, exists_eq_left', pickV, binV, convV, load1V, max2V, min2V, nilchkV, unV, boolEq, isNilV, fadV, extV, slenV, ne_eq, not_true_eq_false, if_false, if_true, ite_true, ite_false, Bool.false_eq_true, Bool.true_eq_false, beq_true, beq_false, beq_self_eq_true, Bool.not_true, Bool.not_false, reduceCtorEq, List.getElem?_toArray, List.getElem?_cons_zero, List.getElem?_cons_succ]
      refine s_ret1 ?_
      simp +decide only [p_seq_normal, p_seq_ret, p_seq_exit, p_block_normal, p_block_ret, p_block_exit, p_fin_ret, p_fin_normal, reduceIte, Nat.reduceEqDiff, resV, resOne, resL, gv, Option.some.injEq, exists_eq_left', Option.bind_some, Option.map_some, List.getD_cons_zero, List.getD_cons_succ]
      exact ⟨_, rfl, .inr ⟨i, rfl, hlt', hz, hlt', hg'⟩, hx.trans hx2⟩
    · have hg' : (l[i]'hlt').c ≠ 0 := by simpa using hg
      refine s_skip1 ?_
      simp +decide only [p_seq_normal, p_seq_ret, p_seq_exit, p_block_normal, p_block_ret, p_block_exit, p_fin_ret, p_fin_normal, reduceIte, Nat.reduceEqDiff, resV, resOne, resL, gv, Option.some.injEq, exists_eq_left', Option.bind_some, Option.map_some, List.getD_cons_zero, List.getD_cons_succ]
      refine s_reg1 ?_
      simp only [o_cont, o_callT, callV_fn, o_pure, o_eff, o_callF, o_callN, o_guard, gk_tt, gk_ff, gk_tf, gk_ft, gk_u, t_op, t_alt, t_nil, o_nil, POp.ev, Opd.ev, EOp.ev, env0, gu, gv, setD, resV, List.set, List.map, List.map_nil, List.map_cons, Option.map_none, Option.map_some, Option.some.injEq, exists_eq_left', pickV, binV, convV, load1V, max2V, min2V, nilchkV, unV, boolEq, isNilV, fadV, extV, slenV, ne_eq, not_true_eq_false, if_false, if_true, ite_true, ite_false, Bool.false_eq_true, Bool.true_eq_false, beq_true, beq_false, beq_self_eq_true, Bool.not_true, Bool.not_false, reduceCtorEq, List.getElem?_toArray, List.getElem?_cons_zero, List.getElem?_cons_succ, add1 (i := i) (by omega)]
      simp +decide only [p_seq_normal, p_seq_ret, p_seq_exit, p_block_normal, p_block_ret, p_block_exit, p_fin_ret, p_fin_normal, reduceIte, Nat.reduceEqDiff, resV, resOne, resL, gv, Option.some.injEq, exists_eq_left', Option.bind_some, Option.map_some, List.getD_cons_zero, List.getD_cons_succ]
      refine Round.mk (k - 1) (by omega) ⟨i + 1, _, by omega, fun t ht => ?_, hx.trans hx2, rfl⟩
      rw [List.take_add_one, List.getElem?_eq_getElem hlt', Option.toList_some, List.mem_append] at ht
      rcases ht with ht | ht
      · exact hz t ht
      · rw [List.mem_singleton.1 ht]; exact hg'
  · have hge : i = l.length := by simp at hlt; omega
    subst hge
    refine s_exit1 ?_
    simp +decide only [p_seq_normal, p_seq_ret, p_seq_exit, p_block_normal, p_block_ret, p_block_exit, p_fin_ret, p_fin_normal, reduceIte, Nat.reduceEqDiff, resV, resOne, resL, gv, Option.some.injEq, exists_eq_left', Option.bind_some, Option.map_some, List.getD_cons_zero, List.getD_cons_succ]
    refine s_reg ?_
    simp only [o_cont, o_callT, callV_fn, o_pure, o_eff, o_callF, o_callN, o_guard, gk_tt, gk_ff, gk_tf, gk_ft, gk_u, t_op, t_alt, t_nil, o_nil, POp.ev, Opd.ev, EOp.ev, env0, gu, gv, setD, resV, List.set, List.map, List.map_nil, List.map_cons, Option.map_none, Option.map_some, Option.some.injEq, exists_eq_left', pickV, binV, convV, load1V, max2V, min2V, nilchkV, unV, boolEq, isNilV, fadV, extV, slenV, ne_eq, not_true_eq_false, if_false, if_true, ite_true, ite_false, Bool.false_eq_true, Bool.true_eq_false, beq_true, beq_false, beq_self_eq_true, Bool.not_true, Bool.not_false, reduceCtorEq, List.getElem?_toArray, List.getElem?_cons_zero, List.getElem?_cons_succ]
    refine s_ret1 ?_
    simp +decide only [p_seq_normal, p_seq_ret, p_seq_exit, p_block_normal, p_block_ret, p_block_exit, p_fin_ret, p_fin_normal, reduceIte, Nat.reduceEqDiff, resV, resOne, resL, gv, Option.some.injEq, exists_eq_left', Option.bind_some, Option.map_some, List.getD_cons_zero, List.getD_cons_succ]
    rw [List.take_length] at hz
    exact ⟨_, rfl, .inl ⟨rfl, hz⟩, hx⟩
theorem nzF_all {l : List Tm} (h : ∀ t ∈ l, t.c ≠ 0) : nzF l = l := List.filter_eq_self.2 fun t ht => by simpa using h t ht
theorem nzF_append (l m : List Tm) : nzF (l ++ m) = nzF l ++ nzF m := List.filter_append ..
theorem nzF_take_succ {l : List Tm} {j : Nat} (hj : j < l.length) : nzF (l.take (j + 1)) = nzF (l.take j) ++ if l[j].c = 0 then [] else [l[j]] := by
  rw [List.take_add_one, List.getElem?_eq_getElem hj, Option.toList_some, nzF_append]
  congr 1
  by_cases h : l[j].c = 0 <;> simp [nzF, h]

theorem deleteFuncG_ok (lim : Nat) (s : Value) (b : Nat) (l : List Tm) (H : AHeap) (hs : VecT H b s l) (hl : lim ≤ b) (hlim : lim ≤ H.next) (hb : b ≤ H.next) (hn : l.length ≤ 100000) :
    ACalls Try.prog lim n_slices_DeleteFunc_S_impl_Term_impl_Term [s, delF] H fun v H' => VecT H' b v (nzF l) ∧ Chg b H H' := by
  refine is_slices_DeleteFunc_S_impl_Term_impl_Term.go rfl ?_
  unfold c_slices_DeleteFunc_S_impl_Term_impl_Term
  refine s_reg ?_
  simp only [o_cont, o_callT, callV_fn, o_pure, o_eff, o_callF, o_callN, o_guard, gk_tt, gk_ff, gk_tf, gk_ft, gk_u, t_op, t_alt, t_nil, o_nil, POp.ev, Opd.ev, EOp.ev, env0, gu, gv, setD, resV, List.set, List.map, List.map_nil, List.map_cons, Option.map_none, Option.map_some, Option.some.injEq, exists_eq_left', pickV, binV, convV, load1V, max2V, min2V, nilchkV, unV, boolEq, isNilV, fadV, extV, slenV, ne_eq, not_true_eq_false, if_false, if_true, ite_true, ite_false, Bool.false_eq_true, Bool.true_eq_false, beq_true, beq_false, beq_self_eq_true, Bool.not_true, Bool.not_false, reduceCtorEq, List.getElem?_toArray, List.getElem?_cons_zero, List.getElem?_cons_succ]
  refine s_reg ?_
  simp only [o_cont, o_callT, callV_fn, o_pure, o_eff, o_callF, o_callN, o_guard, gk_tt, gk_ff, gk_tf, gk_ft, gk_u, t_op, t_alt, t_nil, o_nil, POp.ev, Opd.ev, EOp.ev, env0, gu, gv, setD, resV, List.set, List.map, List.map_nil, List.map_cons, Option.map_none, Option.map_some, Option.some.injEq, exists_eq_left', pickV, binV, convV, load1V, max2V, min2V, nilchkV, unV, boolEq, isNilV, fadV, extV, slenV, ne_eq, not_true_eq_false, if_false, if_true, ite_true, ite_false, Bool.false_eq_true, Bool.true_eq_false, beq_true, beq_false, beq_self_eq_true, Bool.not_true, Bool.not_false, reduceCtorEq, List.getElem?_toArray, List.getElem?_cons_zero, List.getElem?_cons_succ]
  refine (indexFuncG_ok lim s l H (Vec.sl hs) (by omega)).mono ?_
  rintro _ H2 ⟨r, rfl, hf, hx2⟩
  simp only [o_cont, o_callT, callV_fn, o_pure, o_eff, o_callF, o_callN, o_guard, gk_tt, gk_ff, gk_tf, gk_ft, gk_u, t_op, t_alt, t_nil, o_nil, POp.ev, Opd.ev, EOp.ev, env0, gu, gv, setD, resV, List.set, List.map, List.map_nil, List.map_cons, Option.map_none, Option.map_some, Option.some.injEq, exists_eq_left', pickV, binV, convV, load1V, max2V, min2V, nilchkV, unV, boolEq, isNilV, fadV, extV, slenV, ne_eq, not_true_eq_false, if_false, if_true, ite_true, ite_false, Bool.false_eq_true, Bool.true_eq_false, beq_true, beq_false, beq_self_eq_true, Bool.not_true, Bool.not_false, reduceCtorEq, List.getElem?_toArray, List.getElem?_cons_zero, List.getElem?_cons_succ]
  refine s_test ?_
  rcases hf with ⟨rfl, hz⟩ | ⟨i, rfl, hi, hz, hi', hzi⟩
  · have hd : ((-1 : Int) == -1) = true := by decide
    simp only [o_cont, o_callT, callV_fn, o_pure, o_eff, o_callF, o_callN, o_guard, gk_tt, gk_ff, gk_tf, gk_ft, gk_u, t_op, t_alt, t_nil, o_nil, POp.ev, Opd.ev, EOp.ev, env0, gu, gv, setD, resV, List.set, List.map, List.map_nil, List.map_cons, Option.map_none, Option.map_some, Option.some.injEq, exists_eq_left', pickV, binV, convV, load1V, max2V, min2V, nilchkV, unV, boolEq, isNilV, fadV, extV, slenV, ne_eq, not_true_eq_false, if_false, if_true, ite_true, ite_false, Bool.false_eq_true, Bool.true_eq_false, beq_true, beq_false, beq_self_eq_true, Bool.not_true, Bool.not_false, reduceCtorEq, List.getElem?_toArray, List.getElem?_cons_zero, List.getElem?_cons_succ, hd]
    refine Test.true_ (s_reg ?_)
    simp only [o_cont, o_callT, callV_fn, o_pure, o_eff, o_callF, o_callN, o_guard, gk_tt, gk_ff, gk_tf, gk_ft, gk_u, t_op, t_alt, t_nil, o_nil, POp.ev, Opd.ev, EOp.ev, env0, gu, gv, setD, resV, List.set, List.map, List.map_nil, List.map_cons, Option.map_none, Option.map_some, Option.some.injEq, exists_eq_left', pickV, binV, convV, load1V, max2V, min2V, nilchkV, unV, boolEq, isNilV, fadV, extV, slenV, ne_eq, not_true_eq_false, if_false, if_true, ite_true, ite_false, Bool.false_eq_true, Bool.true_eq_false, beq_true, beq_false, beq_self_eq_true, Bool.not_true, Bool.not_false, reduceCtorEq, List.getElem?_toArray, List.getElem?_cons_zero, List.getElem?_cons_succ]
    refine s_ret1 ?_
    simp +decide only [p_seq_normal, p_seq_ret, p_seq_exit, p_block_normal, p_block_ret, p_block_exit, p_fin_ret, p_fin_normal, reduceIte, Nat.reduceEqDiff, resV, resOne, resL, gv, Option.some.injEq, exists_eq_left', Option.bind_some, Option.map_some, List.getD_cons_zero, List.getD_cons_succ]
    rw [nzF_all hz]
    exact ⟨VecT.ext hs hx2, Chg.of_ext hx2⟩
  · have hd : ((i : Int) == -1) = false := by simp <;> omega
    simp only [o_cont, o_callT, callV_fn, o_pure, o_eff, o_callF, o_callN, o_guard, gk_tt, gk_ff, gk_tf, gk_ft, gk_u, t_op, t_alt, t_nil, o_nil, POp.ev, Opd.ev, EOp.ev, env0, gu, gv, setD, resV, List.set, List.map, List.map_nil, List.map_cons, Option.map_none, Option.map_some, Option.some.injEq, exists_eq_left', pickV, binV, convV, load1V, max2V, min2V, nilchkV, unV, boolEq, isNilV, fadV, extV, slenV, ne_eq, not_true_eq_false, if_false, if_true, ite_true, ite_false, Bool.false_eq_true, Bool.true_eq_false, beq_true, beq_false, beq_self_eq_true, Bool.not_true, Bool.not_false, reduceCtorEq, List.getElem?_toArray, List.getElem?_cons_zero, List.getElem?_cons_succ, hd]
    refine Test.false_ (s_skip1 ?_)
    simp +decide only [p_seq_normal, p_seq_ret, p_seq_exit, p_block_normal, p_block_ret, p_block_exit, p_fin_ret, p_fin_normal, reduceIte, Nat.reduceEqDiff, resV, resOne, resL, gv, Option.some.injEq, exists_eq_left', Option.bind_some, Option.map_some, List.getD_cons_zero, List.getD_cons_succ]
    refine s_assoc (s_reg ?_)
    simp only [o_cont, o_callT, callV_fn, o_pure, o_eff, o_callF, o_callN, o_guard, gk_tt, gk_ff, gk_tf, gk_ft, gk_u, t_op, t_alt, t_nil, o_nil, POp.ev, Opd.ev, EOp.ev, env0, gu, gv, setD, resV, List.set, List.map, List.map_nil, List.map_cons, Option.map_none, Option.map_some, Option.some.injEq, exists_eq_left', pickV, binV, convV, load1V, max2V, min2V, nilchkV, unV, boolEq, isNilV, fadV, extV, slenV, ne_eq, not_true_eq_false, if_false, if_true, ite_true, ite_false, Bool.false_eq_true, Bool.true_eq_false, beq_true, beq_false, beq_self_eq_true, Bool.not_true, Bool.not_false, reduceCtorEq, List.getElem?_toArray, List.getElem?_cons_zero, List.getElem?_cons_succ, add1 (i := i) (by omega)]
    have hn2 := hx2.next
    refine s_block ?_
    refine s_loop1 (fun k e' H' => ∃ (j : Nat) (F G : List Tm) (x5 : Value), j + k = l.length ∧ F = nzF (l.take j) ∧ F.length + G.length = j ∧ G ≠ [] ∧ VecT H' b s (F ++ G ++ l.drop j) ∧ Chg b H H' ∧ e' = [s, delF, .slice none 0 0, .int .i64 F.length, .int .i64 j, x5]) (l.length - (i + 1))
      ⟨i + 1, l.take i, [l[i]], _, by omega, by rw [nzF_take_succ hi, if_pos hzi, List.append_nil, nzF_all hz], by simp; omega, by simp, ?_, Chg.of_ext hx2, by rw [List.length_take, Nat.min_eq_left (by omega)]⟩ ?_
    · have : l.take i ++ [l[i]] ++ l.drop (i + 1) = l := by rw [List.append_assoc, List.singleton_append, List.getElem_cons_drop, List.take_append_drop]
      rw [this]
      exact VecT.ext hs hx2
    rintro k e' H3 ⟨j, F, G, x5, hjk, hF, hFG, hG, hv, hc, rfl⟩
    have hnc := hc.next
    have hFj : F.length ≤ j := by omega
    have hvl : (F ++ G ++ l.drop j).length = l.length := by simp; omega
    refine s_test ?_
    have hlv := Vec.lenV hv
    rw [hvl] at hlv
    simp only [o_cont, o_callT, callV_fn, o_pure, o_eff, o_callF, o_callN, o_guard, gk_tt, gk_ff, gk_tf, gk_ft, gk_u, t_op, t_alt, t_nil, o_nil, POp.ev, Opd.ev, EOp.ev, env0, gu, gv, setD, resV, List.set, List.map, List.map_nil, List.map_cons, Option.map_none, Option.map_some, Option.some.injEq, exists_eq_left', pickV, binV, convV, load1V, max2V, min2V, nilchkV, unV, boolEq, isNilV, fadV, extV, slenV, ne_eq, not_true_eq_false, if_false, if_true, ite_true, ite_false, Bool.false_eq_true, Bool.true_eq_false, beq_true, beq_false, beq_self_eq_true, Bool.not_true, Bool.not_false, reduceCtorEq, List.getElem?_toArray, List.getElem?_cons_zero, List.getElem?_cons_succ, hlv]
    refine Test.split (fun hlt => ?_) (fun hlt => ?_)
    · have hlt' : j < l.length := by simpa using hlt
      obtain ⟨j1, a1⟩ := VecT.at hv (i := j) (by omega)
      have g1 : (F ++ G ++ l.drop j)[j]'(by omega) = l[j] := by
        rw [List.getElem_append_right (by simp; omega), List.getElem_drop]
        congr 1
        simp; omega
      rw [g1] at a1
      refine s_skip1 ?_
      simp +decide only [p_seq_normal, p_seq_ret, p_seq_exit, p_block_normal, p_block_ret, p_block_exit, p_fin_ret, p_fin_normal, reduceIte, Nat.reduceEqDiff, resV, resOne, resL, gv, Option.some.injEq, exists_eq_left', Option.bind_some, Option.map_some, List.getD_cons_zero, List.getD_cons_succ]
      refine s_block ?_
      refine s_reg ?_
      simp only [o_cont, o_callT, callV_fn, o_pure, o_eff, o_callF, o_callN, o_guard, gk_tt, gk_ff, gk_tf, gk_ft, gk_u, t_op, t_alt, t_nil, o_nil, POp.ev, Opd.ev, EOp.ev, env0, gu, gv, setD, resV, List.set, List.map, List.map_nil, List.map_cons, Option.map_none, Option.map_some, Option.some.injEq, exists_eq_left', pickV, binV, convV, load1V, max2V, min2V, nilchkV, unV, boolEq, isNilV, fadV, extV, slenV, ne_eq, not_true_eq_false, if_false, if_true, ite_true, ite_false, Bool.false_eq_true, Bool.true_eq_false, beq_true, beq_false, beq_self_eq_true, Bool.not_true, Bool.not_false, reduceCtorEq, List.getElem?_toArray, List.getElem?_cons_zero, List.getElem?_cons_succ, j1, a1.all, store4_new (lim := lim) (H := H3) (by omega)]
      have hB := BoxT.mk' H3 l[j]
      generalize H3.alloc (tc l[j]) = H4 at hB ⊢
      generalize H3.next = q at hB hnc ⊢
      replace hv := VecT.ext hv hB.ext
      replace hc := hc.trans (Chg.of_ext hB.ext)
      have hdj : l.drop j = l[j] :: l.drop (j + 1) := (List.getElem_cons_drop ..).symm
      obtain ⟨g, G', rfl⟩ : ∃ g G', G = g :: G' := by
        cases G with
        | nil => exact absurd rfl hG
        | cons g G' => exact ⟨g, G', rfl⟩
      simp only [List.length_cons] at hFG
      refine s_test1 ?_
      simp only [o_cont, o_callT, callV_fn, o_pure, o_eff, o_callF, o_callN, o_guard, gk_tt, gk_ff, gk_tf, gk_ft, gk_u, t_op, t_alt, t_nil, o_nil, POp.ev, Opd.ev, EOp.ev, env0, gu, gv, setD, resV, List.set, List.map, List.map_nil, List.map_cons, Option.map_none, Option.map_some, Option.some.injEq, exists_eq_left', pickV, binV, convV, load1V, max2V, min2V, nilchkV, unV, boolEq, isNilV, fadV, extV, slenV, ne_eq, not_true_eq_false, if_false, if_true, ite_true, ite_false, Bool.false_eq_true, Bool.true_eq_false, beq_true, beq_false, beq_self_eq_true, Bool.not_true, Bool.not_false, reduceCtorEq, List.getElem?_toArray, List.getElem?_cons_zero, List.getElem?_cons_succ, hB.all]
      refine (collect1_ok _ _ _).mono ?_
      rintro _ H5 ⟨rfl, hx5⟩
      replace hv := VecT.ext hv hx5
      replace hc := hc.trans (Chg.of_ext hx5)
      replace hB := hB.mono hx5
      simp only [o_cont, o_callT, callV_fn, o_pure, o_eff, o_callF, o_callN, o_guard, gk_tt, gk_ff, gk_tf, gk_ft, gk_u, t_op, t_alt, t_nil, o_nil, POp.ev, Opd.ev, EOp.ev, env0, gu, gv, setD, resV, List.set, List.map, List.map_nil, List.map_cons, Option.map_none, Option.map_some, Option.some.injEq, exists_eq_left', pickV, binV, convV, load1V, max2V, min2V, nilchkV, unV, boolEq, isNilV, fadV, extV, slenV, ne_eq, not_true_eq_false, if_false, if_true, ite_true, ite_false, Bool.false_eq_true, Bool.true_eq_false, beq_true, beq_false, beq_self_eq_true, Bool.not_true, Bool.not_false, reduceCtorEq, List.getElem?_toArray, List.getElem?_cons_zero, List.getElem?_cons_succ]
      have leave : ∀ (F2 G2 : List Tm) (H6 : AHeap), F2 = nzF (l.take (j + 1)) → F2.length + G2.length = j + 1 → G2 ≠ [] → VecT H6 b s (F2 ++ G2 ++ l.drop (j + 1)) → Chg b H H6 →
          Round (fun k e' H' => ∃ (j : Nat) (F G : List Tm) (x5 : Value), j + k = l.length ∧ F = nzF (l.take j) ∧ F.length + G.length = j ∧ G ≠ [] ∧ VecT H' b s (F ++ G ++ l.drop j) ∧ Chg b H H' ∧ e' = [s, delF, .slice none 0 0, .int .i64 F.length, .int .i64 j, x5]) k [s, delF, .slice none 0 0, .int .i64 F2.length, .int .i64 ((j + 1 : Nat) : Int), .pointer (some ⟨q, 0, none⟩)] H6 := by
        intro F2 G2 H6 h1 h2 h3 h4 h5
        exact Round.mk (k - 1) (by omega) ⟨j + 1, F2, G2, _, by omega, h1, h2, h3, h4, h5, rfl⟩
      refine Test.split (fun hg => ?_) (fun hg => ?_)
      · have hg' : l[j].c ≠ 0 := by simpa using hg
        have hsh : F ++ g :: G' ++ l.drop j = F ++ g :: (G' ++ l.drop j) := by simp
        rw [hsh] at hv
        obtain ⟨j2, a2⟩ := VecT.at hv (i := F.length) (by simp)
        obtain ⟨cs, t1, hv6⟩ := VecT.putT (lim := lim) hv hl (i := F.length) (by simp) l[j]
        refine s_reg ?_
        simp only [o_cont, o_callT, callV_fn, o_pure, o_eff, o_callF, o_callN, o_guard, gk_tt, gk_ff, gk_tf, gk_ft, gk_u, t_op, t_alt, t_nil, o_nil, POp.ev, Opd.ev, EOp.ev, env0, gu, gv, setD, resV, List.set, List.map, List.map_nil, List.map_cons, Option.map_none, Option.map_some, Option.some.injEq, exists_eq_left', pickV, binV, convV, load1V, max2V, min2V, nilchkV, unV, boolEq, isNilV, fadV, extV, slenV, ne_eq, not_true_eq_false, if_false, if_true, ite_true, ite_false, Bool.false_eq_true, Bool.true_eq_false, beq_true, beq_false, beq_self_eq_true, Bool.not_true, Bool.not_false, reduceCtorEq, List.getElem?_toArray, List.getElem?_cons_zero, List.getElem?_cons_succ, hB.all, j2, t1]
        refine s_reg1 ?_
        simp only [o_cont, o_callT, callV_fn, o_pure, o_eff, o_callF, o_callN, o_guard, gk_tt, gk_ff, gk_tf, gk_ft, gk_u, t_op, t_alt, t_nil, o_nil, POp.ev, Opd.ev, EOp.ev, env0, gu, gv, setD, resV, List.set, List.map, List.map_nil, List.map_cons, Option.map_none, Option.map_some, Option.some.injEq, exists_eq_left', pickV, binV, convV, load1V, max2V, min2V, nilchkV, unV, boolEq, isNilV, fadV, extV, slenV, ne_eq, not_true_eq_false, if_false, if_true, ite_true, ite_false, Bool.false_eq_true, Bool.true_eq_false, beq_true, beq_false, beq_self_eq_true, Bool.not_true, Bool.not_false, reduceCtorEq, List.getElem?_toArray, List.getElem?_cons_zero, List.getElem?_cons_succ, add1 (i := F.length) (by omega)]
        simp +decide only [p_seq_normal, p_seq_ret, p_seq_exit, p_block_normal, p_block_ret, p_block_exit, p_fin_ret, p_fin_normal, reduceIte, Nat.reduceEqDiff, resV, resOne, resL, gv, Option.some.injEq, exists_eq_left', Option.bind_some, Option.map_some, List.getD_cons_zero, List.getD_cons_succ]
        refine s_reg1 ?_
        simp only [o_cont, o_callT, callV_fn, o_pure, o_eff, o_callF, o_callN, o_guard, gk_tt, gk_ff, gk_tf, gk_ft, gk_u, t_op, t_alt, t_nil, o_nil, POp.ev, Opd.ev, EOp.ev, env0, gu, gv, setD, resV, List.set, List.map, List.map_nil, List.map_cons, Option.map_none, Option.map_some, Option.some.injEq, exists_eq_left', pickV, binV, convV, load1V, max2V, min2V, nilchkV, unV, boolEq, isNilV, fadV, extV, slenV, ne_eq, not_true_eq_false, if_false, if_true, ite_true, ite_false, Bool.false_eq_true, Bool.true_eq_false, beq_true, beq_false, beq_self_eq_true, Bool.not_true, Bool.not_false, reduceCtorEq, List.getElem?_toArray, List.getElem?_cons_zero, List.getElem?_cons_succ, add1 (i := j) (by omega)]
        simp +decide only [p_seq_normal, p_seq_ret, p_seq_exit, p_block_normal, p_block_ret, p_block_exit, p_fin_ret, p_fin_normal, reduceIte, Nat.reduceEqDiff, resV, resOne, resL, gv, Option.some.injEq, exists_eq_left', Option.bind_some, Option.map_some, List.getD_cons_zero, List.getD_cons_succ]
        have e2 : (F ++ g :: (G' ++ l.drop j)).set F.length l[j] = (F ++ [l[j]]) ++ (G' ++ [l[j]]) ++ l.drop (j + 1) := by
          rw [List.set_append_right _ _ (by omega), Nat.sub_self, hdj]
          simp
        rw [e2] at hv6
        have := leave (F ++ [l[j]]) (G' ++ [l[j]]) _ (by rw [nzF_take_succ hlt', if_neg hg', hF]) (by simp; omega) (by simp) hv6 (hc.trans (Chg.put _ _ _))
        rw [List.length_append, List.length_singleton] at this
        exact this
      · have hg' : l[j].c = 0 := by simpa using hg
        refine s_skip1 ?_
        simp +decide only [p_seq_normal, p_seq_ret, p_seq_exit, p_block_normal, p_block_ret, p_block_exit, p_fin_ret, p_fin_normal, reduceIte, Nat.reduceEqDiff, resV, resOne, resL, gv, Option.some.injEq, exists_eq_left', Option.bind_some, Option.map_some, List.getD_cons_zero, List.getD_cons_succ]
        refine s_reg1 ?_
        simp only [o_cont, o_callT, callV_fn, o_pure, o_eff, o_callF, o_callN, o_guard, gk_tt, gk_ff, gk_tf, gk_ft, gk_u, t_op, t_alt, t_nil, o_nil, POp.ev, Opd.ev, EOp.ev, env0, gu, gv, setD, resV, List.set, List.map, List.map_nil, List.map_cons, Option.map_none, Option.map_some, Option.some.injEq, exists_eq_left', pickV, binV, convV, load1V, max2V, min2V, nilchkV, unV, boolEq, isNilV, fadV, extV, slenV, ne_eq, not_true_eq_false, if_false, if_true, ite_true, ite_false, Bool.false_eq_true, Bool.true_eq_false, beq_true, beq_false, beq_self_eq_true, Bool.not_true, Bool.not_false, reduceCtorEq, List.getElem?_toArray, List.getElem?_cons_zero, List.getElem?_cons_succ, add1 (i := j) (by omega)]
        simp +decide only [p_seq_normal, p_seq_ret, p_seq_exit, p_block_normal, p_block_ret, p_block_exit, p_fin_ret, p_fin_normal, reduceIte, Nat.reduceEqDiff, resV, resOne, resL, gv, Option.some.injEq, exists_eq_left', Option.bind_some, Option.map_some, List.getD_cons_zero, List.getD_cons_succ]
        refine leave F (g :: G' ++ [l[j]]) _ (by rw [nzF_take_succ hlt', if_pos hg', List.append_nil, hF]) (by simp; omega) (by simp) ?_ hc
        rw [hdj] at hv
        simpa using hv
    · have hge : j = l.length := by simp at hlt; omega
      subst hge
      refine s_exit1 ?_
      simp +decide only [p_seq_normal, p_seq_ret, p_seq_exit, p_block_normal, p_block_ret, p_block_exit, p_fin_ret, p_fin_normal, reduceIte, Nat.reduceEqDiff, resV, resOne, resL, gv, Option.some.injEq, exists_eq_left', Option.bind_some, Option.map_some, List.getD_cons_zero, List.getD_cons_succ]
      rw [List.take_length] at hF
      obtain ⟨vd, H4, vk, m1, m2, m3, m4, m5⟩ := VecT.cut (lim := lim) hv hl (k := F.length) (by simp <;> omega)
      refine s_reg ?_
      simp only [o_cont, o_callT, callV_fn, o_pure, o_eff, o_callF, o_callN, o_guard, gk_tt, gk_ff, gk_tf, gk_ft, gk_u, t_op, t_alt, t_nil, o_nil, POp.ev, Opd.ev, EOp.ev, env0, gu, gv, setD, resV, List.set, List.map, List.map_nil, List.map_cons, Option.map_none, Option.map_some, Option.some.injEq, exists_eq_left', pickV, binV, convV, load1V, max2V, min2V, nilchkV, unV, boolEq, isNilV, fadV, extV, slenV, ne_eq, not_true_eq_false, if_false, if_true, ite_true, ite_false, Bool.false_eq_true, Bool.true_eq_false, beq_true, beq_false, beq_self_eq_true, Bool.not_true, Bool.not_false, reduceCtorEq, List.getElem?_toArray, List.getElem?_cons_zero, List.getElem?_cons_succ, m1, m2]
      refine s_reg ?_
      simp only [o_cont, o_callT, callV_fn, o_pure, o_eff, o_callF, o_callN, o_guard, gk_tt, gk_ff, gk_tf, gk_ft, gk_u, t_op, t_alt, t_nil, o_nil, POp.ev, Opd.ev, EOp.ev, env0, gu, gv, setD, resV, List.set, List.map, List.map_nil, List.map_cons, Option.map_none, Option.map_some, Option.some.injEq, exists_eq_left', pickV, binV, convV, load1V, max2V, min2V, nilchkV, unV, boolEq, isNilV, fadV, extV, slenV, ne_eq, not_true_eq_false, if_false, if_true, ite_true, ite_false, Bool.false_eq_true, Bool.true_eq_false, beq_true, beq_false, beq_self_eq_true, Bool.not_true, Bool.not_false, reduceCtorEq, List.getElem?_toArray, List.getElem?_cons_zero, List.getElem?_cons_succ, m3]
      refine s_ret1 ?_
      simp +decide only [p_seq_normal, p_seq_ret, p_seq_exit, p_block_normal, p_block_ret, p_block_exit, p_fin_ret, p_fin_normal, reduceIte, Nat.reduceEqDiff, resV, resOne, resL, gv, Option.some.injEq, exists_eq_left', Option.bind_some, Option.map_some, List.getD_cons_zero, List.getD_cons_succ]
      rw [List.append_assoc, List.take_left] at m4
      rw [← hF]
      exact ⟨m4, hc.trans m5⟩

theorem collectG_ok (lim : Nat) (s : Value) (l0 : List Tm) (H : AHeap) (hl : lim ≤ H.next) (hs : SlT H s l0) (hn0 : l0.length ≤ 10000) :
    ACalls Try.prog lim n_impl_collect [s] H fun v H' => ∃ b, H.next ≤ b ∧ b ≤ H'.next ∧ VecT H' b v (coll l0) ∧ Ext H H' := by
  refine is_impl_collect.go rfl ?_
  unfold c_impl_collect
  refine s_reg ?_
  simp only [o_cont, o_callT, callV_fn, o_pure, o_eff, o_callF, o_callN, o_guard, gk_tt, gk_ff, gk_tf, gk_ft, gk_u, t_op, t_alt, t_nil, o_nil, POp.ev, Opd.ev, EOp.ev, env0, gu, gv, setD, resV, List.set, List.map, List.map_nil, List.map_cons, Option.map_none, Option.map_some, Option.some.injEq, exists_eq_left', pickV, binV, convV, load1V, max2V, min2V, nilchkV, unV, boolEq, isNilV, fadV, extV, slenV, ne_eq, not_true_eq_false, if_false, if_true, ite_true, ite_false, Bool.false_eq_true, Bool.true_eq_false, beq_true, beq_false, beq_self_eq_true, Bool.not_true, Bool.not_false, reduceCtorEq, List.getElem?_toArray, List.getElem?_cons_zero, List.getElem?_cons_succ]
  refine s_reg ?_
  simp only [o_cont, o_callT, callV_fn, o_pure, o_eff, o_callF, o_callN, o_guard, gk_tt, gk_ff, gk_tf, gk_ft, gk_u, t_op, t_alt, t_nil, o_nil, POp.ev, Opd.ev, EOp.ev, env0, gu, gv, setD, resV, List.set, List.map, List.map_nil, List.map_cons, Option.map_none, Option.map_some, Option.some.injEq, exists_eq_left', pickV, binV, convV, load1V, max2V, min2V, nilchkV, unV, boolEq, isNilV, fadV, extV, slenV, ne_eq, not_true_eq_false, if_false, if_true, ite_true, ite_false, Bool.false_eq_true, Bool.true_eq_false, beq_true, beq_false, beq_self_eq_true, Bool.not_true, Bool.not_false, reduceCtorEq, List.getElem?_toArray, List.getElem?_cons_zero, List.getElem?_cons_succ]
  refine (clone_ok lim _ _ _ hl hs (by omega)).mono ?_
  rintro s1 H1 ⟨b1, hb1, hb2, hv1, hx1⟩
  have hlt1 : b1 < H1.next ∨ l0 = [] := by
    by_cases h : l0 = []
    · exact .inr h
    · exact .inl ((Vec.blk hv1 (fun e => h (List.length_eq_zero_iff.1 e))).elim fun _ h => h.2)
  simp only [o_cont, o_callT, callV_fn, o_pure, o_eff, o_callF, o_callN, o_guard, gk_tt, gk_ff, gk_tf, gk_ft, gk_u, t_op, t_alt, t_nil, o_nil, POp.ev, Opd.ev, EOp.ev, env0, gu, gv, setD, resV, List.set, List.map, List.map_nil, List.map_cons, Option.map_none, Option.map_some, Option.some.injEq, exists_eq_left', pickV, binV, convV, load1V, max2V, min2V, nilchkV, unV, boolEq, isNilV, fadV, extV, slenV, ne_eq, not_true_eq_false, if_false, if_true, ite_true, ite_false, Bool.false_eq_true, Bool.true_eq_false, beq_true, beq_false, beq_self_eq_true, Bool.not_true, Bool.not_false, reduceCtorEq, List.getElem?_toArray, List.getElem?_cons_zero, List.getElem?_cons_succ]
  refine s_reg ?_
  simp only [o_cont, o_callT, callV_fn, o_pure, o_eff, o_callF, o_callN, o_guard, gk_tt, gk_ff, gk_tf, gk_ft, gk_u, t_op, t_alt, t_nil, o_nil, POp.ev, Opd.ev, EOp.ev, env0, gu, gv, setD, resV, List.set, List.map, List.map_nil, List.map_cons, Option.map_none, Option.map_some, Option.some.injEq, exists_eq_left', pickV, binV, convV, load1V, max2V, min2V, nilchkV, unV, boolEq, isNilV, fadV, extV, slenV, ne_eq, not_true_eq_false, if_false, if_true, ite_true, ite_false, Bool.false_eq_true, Bool.true_eq_false, beq_true, beq_false, beq_self_eq_true, Bool.not_true, Bool.not_false, reduceCtorEq, List.getElem?_toArray, List.getElem?_cons_zero, List.getElem?_cons_succ]
  refine (sortG_ok lim s1 b1 l0 _ hv1 (by omega) hlt1 hn0).mono ?_
  rintro _ H2 ⟨hv2, hc2⟩
  have hil : (isortF [] l0).length = l0.length := isort_length l0
  unfold coll
  generalize isortF [] l0 = l at hv2 hil ⊢
  have hn : l.length ≤ 10000 := by omega
  simp only [o_cont, o_callT, callV_fn, o_pure, o_eff, o_callF, o_callN, o_guard, gk_tt, gk_ff, gk_tf, gk_ft, gk_u, t_op, t_alt, t_nil, o_nil, POp.ev, Opd.ev, EOp.ev, env0, gu, gv, setD, resV, List.set, List.map, List.map_nil, List.map_cons, Option.map_none, Option.map_some, Option.some.injEq, exists_eq_left', pickV, binV, convV, load1V, max2V, min2V, nilchkV, unV, boolEq, isNilV, fadV, extV, slenV, ne_eq, not_true_eq_false, if_false, if_true, ite_true, ite_false, Bool.false_eq_true, Bool.true_eq_false, beq_true, beq_false, beq_self_eq_true, Bool.not_true, Bool.not_false, reduceCtorEq, List.getElem?_toArray, List.getElem?_cons_zero, List.getElem?_cons_succ]
  have hs2 : SlT H2 s1 l := Vec.sl hv2
  have hx12 : Ext H H2 := Chg.ext hx1 hc2 hb1
  have hn12 := hx12.next
  refine s_reg ?_
  simp only [o_cont, o_callT, callV_fn, o_pure, o_eff, o_callF, o_callN, o_guard, gk_tt, gk_ff, gk_tf, gk_ft, gk_u, t_op, t_alt, t_nil, o_nil, POp.ev, Opd.ev, EOp.ev, env0, gu, gv, setD, resV, List.set, List.map, List.map_nil, List.map_cons, Option.map_none, Option.map_some, Option.some.injEq, exists_eq_left', pickV, binV, convV, load1V, max2V, min2V, nilchkV, unV, boolEq, isNilV, fadV, extV, slenV, ne_eq, not_true_eq_false, if_false, if_true, ite_true, ite_false, Bool.false_eq_true, Bool.true_eq_false, beq_true, beq_false, beq_self_eq_true, Bool.not_true, Bool.not_false, reduceCtorEq, List.getElem?_toArray, List.getElem?_cons_zero, List.getElem?_cons_succ]
  refine s_assoc (s_reg ?_)
  simp only [o_cont, o_callT, callV_fn, o_pure, o_eff, o_callF, o_callN, o_guard, gk_tt, gk_ff, gk_tf, gk_ft, gk_u, t_op, t_alt, t_nil, o_nil, POp.ev, Opd.ev, EOp.ev, env0, gu, gv, setD, resV, List.set, List.map, List.map_nil, List.map_cons, Option.map_none, Option.map_some, Option.some.injEq, exists_eq_left', pickV, binV, convV, load1V, max2V, min2V, nilchkV, unV, boolEq, isNilV, fadV, extV, slenV, ne_eq, not_true_eq_false, if_false, if_true, ite_true, ite_false, Bool.false_eq_true, Bool.true_eq_false, beq_true, beq_false, beq_self_eq_true, Bool.not_true, Bool.not_false, reduceCtorEq, List.getElem?_toArray, List.getElem?_cons_zero, List.getElem?_cons_succ, hs2.lenV]
  refine s_block ?_
  refine s_loop1 (fun k e' H' => ∃ (i b : Nat) (v x4 x5 : Value) (out : List Tm), i + k = l.length ∧ (i = 0 ∧ out = [] ∨ 0 < i ∧ ∃ Q o, out = Q ++ [o] ∧ mrgS Q o (l.drop i) = mrg l) ∧ out.length ≤ i ∧ VecT H' b v out ∧ H2.next ≤ b ∧ b ≤ H'.next ∧ Ext H2 H' ∧ e' = [s, .slice none 0 0, s1, v, x4, x5, s1, .int .i64 l.length, .int .i64 i]) l.length ⟨0, H2.next, _, _, _, [], by omega, .inl ⟨rfl, rfl⟩, by simp, vecT_nil _ _, Nat.le_refl _, Nat.le_refl _, Ext.refl _, rfl⟩ ?_
  rintro k e' H' ⟨i, b, v, x4, x5, out, hik, hst, hol, hv, hb, hbH, hx, rfl⟩
  have hnx := hx.next
  refine s_test ?_
  simp only [o_cont, o_callT, callV_fn, o_pure, o_eff, o_callF, o_callN, o_guard, gk_tt, gk_ff, gk_tf, gk_ft, gk_u, t_op, t_alt, t_nil, o_nil, POp.ev, Opd.ev, EOp.ev, env0, gu, gv, setD, resV, List.set, List.map, List.map_nil, List.map_cons, Option.map_none, Option.map_some, Option.some.injEq, exists_eq_left', pickV, binV, convV, load1V, max2V, min2V, nilchkV, unV, boolEq, isNilV, fadV, extV, slenV, ne_eq, not_true_eq_false, if_false, if_true, ite_true, ite_false, Bool.false_eq_true, Bool.true_eq_false, beq_true, beq_false, beq_self_eq_true, Bool.not_true, Bool.not_false, reduceCtorEq, List.getElem?_toArray, List.getElem?_cons_zero, List.getElem?_cons_succ]
  refine Test.split (fun hlt => ?_) (fun hlt => ?_)
  · have hlt' : i < l.length := by simpa using hlt
    obtain ⟨b2, o2, h2, a2⟩ := (hs2.ext hx).at hlt'
    have hdi : l.drop i = l[i] :: l.drop (i + 1) := (List.getElem_cons_drop ..).symm
    refine s_skip1 ?_
    simp +decide only [p_seq_normal, p_seq_ret, p_seq_exit, p_block_normal, p_block_ret, p_block_exit, p_fin_ret, p_fin_normal, reduceIte, Nat.reduceEqDiff, resV, resOne, resL, gv, Option.some.injEq, exists_eq_left', Option.bind_some, Option.map_some, List.getD_cons_zero, List.getD_cons_succ]
    refine s_block ?_
    refine s_reg ?_
    simp only [o_cont, o_callT, callV_fn, o_pure, o_eff, o_callF, o_callN, o_guard, gk_tt, gk_ff, gk_tf, gk_ft, gk_u, t_op, t_alt, t_nil, o_nil, POp.ev, Opd.ev, EOp.ev, env0, gu, gv, setD, resV, List.set, List.map, List.map_nil, List.map_cons, Option.map_none, Option.map_some, Option.some.injEq, exists_eq_left', pickV, binV, convV, load1V, max2V, min2V, nilchkV, unV, boolEq, isNilV, fadV, extV, slenV, ne_eq, not_true_eq_false, if_false, if_true, ite_true, ite_false, Bool.false_eq_true, Bool.true_eq_false, beq_true, beq_false, beq_self_eq_true, Bool.not_true, Bool.not_false, reduceCtorEq, List.getElem?_toArray, List.getElem?_cons_zero, List.getElem?_cons_succ, h2, a2.all, store4_new (lim := lim) (H := H') (by omega)]
    have hB := BoxT.mk' H' l[i]
    generalize H'.alloc (tc l[i]) = H3 at hB ⊢
    generalize H'.next = q at hB hnx hbH ⊢
    have hx3 := hx.trans hB.ext
    have hn3 := hB.lt
    have hq := hB.ge
    replace hv := VecT.ext hv hB.ext
    refine s_reg ?_
    simp only [o_cont, o_callT, callV_fn, o_pure, o_eff, o_callF, o_callN, o_guard, gk_tt, gk_ff, gk_tf, gk_ft, gk_u, t_op, t_alt, t_nil, o_nil, POp.ev, Opd.ev, EOp.ev, env0, gu, gv, setD, resV, List.set, List.map, List.map_nil, List.map_cons, Option.map_none, Option.map_some, Option.some.injEq, exists_eq_left', pickV, binV, convV, load1V, max2V, min2V, nilchkV, unV, boolEq, isNilV, fadV, extV, slenV, ne_eq, not_true_eq_false, if_false, if_true, ite_true, ite_false, Bool.false_eq_true, Bool.true_eq_false, beq_true, beq_false, beq_self_eq_true, Bool.not_true, Bool.not_false, reduceCtorEq, List.getElem?_toArray, List.getElem?_cons_zero, List.getElem?_cons_succ, Vec.lenV hv]
    have leave : ∀ (b' : Nat) (v' : Value) (out' : List Tm) (H4 : AHeap) (x4 x5 : Value), (0 < i + 1 ∧ ∃ Q o, out' = Q ++ [o] ∧ mrgS Q o (l.drop (i + 1)) = mrg l) → out'.length ≤ i + 1 → VecT H4 b' v' out' → H2.next ≤ b' → b' ≤ H4.next → Ext H2 H4 →
        Round (fun k e' H' => ∃ (i b : Nat) (v x4 x5 : Value) (out : List Tm), i + k = l.length ∧ (i = 0 ∧ out = [] ∨ 0 < i ∧ ∃ Q o, out = Q ++ [o] ∧ mrgS Q o (l.drop i) = mrg l) ∧ out.length ≤ i ∧ VecT H' b v out ∧ H2.next ≤ b ∧ b ≤ H'.next ∧ Ext H2 H' ∧ e' = [s, .slice none 0 0, s1, v, x4, x5, s1, .int .i64 l.length, .int .i64 i]) k [s, .slice none 0 0, s1, v', x4, x5, s1, .int .i64 l.length, .int .i64 ((i + 1 : Nat) : Int)] H4 := by
      intro b' v' out' H4 x4 x5 g1 g2 g3 g4 g5 g6
      exact Round.mk (k - 1) (by omega) ⟨i + 1, b', v', x4, x5, out', by omega, .inr g1, g2, g3, g4, g5, g6, rfl⟩
    -- put behind
    have push : ∀ (H4 : AHeap) (x5 : Value), Ext H3 H4 → (∃ Q o, out ++ [l[i]] = Q ++ [o] ∧ mrgS Q o (l.drop (i + 1)) = mrg l) → awp Try.prog lim (.reg [⟨(.pure (.id (.v 3))), none, none⟩, ⟨(.pure (.loadN 4 (.v 4))), none, none⟩, ⟨(.eff (.bslice 1 [(.int .i64 0), (.int .i64 0), (.int .i64 0), (.int .i64 0)] [(0, 4, (.t 0))])), none, none⟩, ⟨(.eff (.append 4 32 (.t 2) (.t 0))), none, none⟩, ⟨(.pure (.id (.t 0))), (some 3), none⟩])
        (Post.seq (fun e' H5 => ∃ b' v' out', VecT H5 b' v' out' ∧ H2.next ≤ b' ∧ b' ≤ H5.next ∧ Ext H2 H5 ∧ out'.length ≤ i + 1 ∧ (∃ Q o, out' = Q ++ [o] ∧ mrgS Q o (l.drop (i + 1)) = mrg l) ∧ e' = [s, .slice none 0 0, s1, v', .pointer (some ⟨q, 0, none⟩), x5, s1, .int .i64 l.length, .int .i64 i]) (fun _ _ _ => False)) [s, .slice none 0 0, s1, v, .pointer (some ⟨q, 0, none⟩), x5, s1, .int .i64 l.length, .int .i64 i] H4 := by
      intro H4 x5 hx4 hm
      have hB4 := hB.mono hx4
      have hv4 := VecT.ext hv hx4
      have hn4 := hx4.next
      obtain ⟨v', H5, b', g1, g2, g3, g4, g5⟩ := pushT (lim := lim) hv4 l[i] (by omega) (by omega)
      refine s_reg1 ?_
      simp only [o_cont, o_callT, callV_fn, o_pure, o_eff, o_callF, o_callN, o_guard, gk_tt, gk_ff, gk_tf, gk_ft, gk_u, t_op, t_alt, t_nil, o_nil, POp.ev, Opd.ev, EOp.ev, env0, gu, gv, setD, resV, List.set, List.map, List.map_nil, List.map_cons, Option.map_none, Option.map_some, Option.some.injEq, exists_eq_left', pickV, binV, convV, load1V, max2V, min2V, nilchkV, unV, boolEq, isNilV, fadV, extV, slenV, ne_eq, not_true_eq_false, if_false, if_true, ite_true, ite_false, Bool.false_eq_true, Bool.true_eq_false, beq_true, beq_false, beq_self_eq_true, Bool.not_true, Bool.not_false, reduceCtorEq, List.getElem?_toArray, List.getElem?_cons_zero, List.getElem?_cons_succ, hB4.all, bsliceT, g1]
      simp +decide only [p_seq_normal, p_seq_ret, p_seq_exit, p_block_normal, p_block_ret, p_block_exit, p_fin_ret, p_fin_normal, reduceIte, Nat.reduceEqDiff, resV, resOne, resL, gv, Option.some.injEq, exists_eq_left', Option.bind_some, Option.map_some, List.getD_cons_zero, List.getD_cons_succ]
      exact ⟨b', v', _, g2, by rcases g3 with rfl | g3 <;> omega, by omega, Chg.ext (hx3.trans hx4) g5 hb, by simp; omega, hm, rfl⟩
    refine s_cut0 (fun e' H5 => ∃ b' v' out', VecT H5 b' v' out' ∧ H2.next ≤ b' ∧ b' ≤ H5.next ∧ Ext H2 H5 ∧ out'.length ≤ i + 1 ∧ (∃ Q o, out' = Q ++ [o] ∧ mrgS Q o (l.drop (i + 1)) = mrg l) ∧ e' = [s, .slice none 0 0, s1, v', .pointer (some ⟨q, 0, none⟩), .int .i64 out.length, s1, .int .i64 l.length, .int .i64 i]) ?_ ?_
    · refine s_test1 ?_
      rcases hst with ⟨hi0, rfl⟩ | ⟨hi0, Q, o, rfl, hm⟩
      · have d0 : decide ((([] : List Tm).length : Int) > 0) = false := by decide
        simp only [o_cont, o_callT, callV_fn, o_pure, o_eff, o_callF, o_callN, o_guard, gk_tt, gk_ff, gk_tf, gk_ft, gk_u, t_op, t_alt, t_nil, o_nil, POp.ev, Opd.ev, EOp.ev, env0, gu, gv, setD, resV, List.set, List.map, List.map_nil, List.map_cons, Option.map_none, Option.map_some, Option.some.injEq, exists_eq_left', pickV, binV, convV, load1V, max2V, min2V, nilchkV, unV, boolEq, isNilV, fadV, extV, slenV, ne_eq, not_true_eq_false, if_false, if_true, ite_true, ite_false, Bool.false_eq_true, Bool.true_eq_false, beq_true, beq_false, beq_self_eq_true, Bool.not_true, Bool.not_false, reduceCtorEq, List.getElem?_toArray, List.getElem?_cons_zero, List.getElem?_cons_succ, d0]
        refine Test.false_ (push H3 _ (Ext.refl _) ⟨[], l[i], rfl, ?_⟩)
        subst hi0
        rw [List.drop_zero] at hdi
        generalize hx0 : l[0] = x0 at hdi ⊢
        rw [hdi]
        rfl
      · have d0 : decide (((Q ++ [o]).length : Int) > 0) = true := decide_eq_true (by simp <;> omega)
        have w1 : IntKind.i64.wrap (((Q ++ [o]).length : Int) - 1) = (Q.length : Int) := by rw [sub1N (by simp) (by omega)]; simp
        obtain ⟨h5, a5⟩ := VecT.at hv (i := Q.length) (by simp)
        rw [get_mid (B := []) rfl] at a5
        rw [hdi, mrgS] at hm
        simp only [o_cont, o_callT, callV_fn, o_pure, o_eff, o_callF, o_callN, o_guard, gk_tt, gk_ff, gk_tf, gk_ft, gk_u, t_op, t_alt, t_nil, o_nil, POp.ev, Opd.ev, EOp.ev, env0, gu, gv, setD, resV, List.set, List.map, List.map_nil, List.map_cons, Option.map_none, Option.map_some, Option.some.injEq, exists_eq_left', pickV, binV, convV, load1V, max2V, min2V, nilchkV, unV, boolEq, isNilV, fadV, extV, slenV, ne_eq, not_true_eq_false, if_false, if_true, ite_true, ite_false, Bool.false_eq_true, Bool.true_eq_false, beq_true, beq_false, beq_self_eq_true, Bool.not_true, Bool.not_false, reduceCtorEq, List.getElem?_toArray, List.getElem?_cons_zero, List.getElem?_cons_succ, d0, w1, h5, a5.all, hB.all]
        refine (compareTerms_ok _ _ _ _).mono ?_
        rintro _ H4 ⟨rfl, hx4⟩
        have hB4 := hB.mono hx4
        have hv4 := VecT.ext hv hx4
        have hn4 := hx4.next
        simp only [o_cont, o_callT, callV_fn, o_pure, o_eff, o_callF, o_callN, o_guard, gk_tt, gk_ff, gk_tf, gk_ft, gk_u, t_op, t_alt, t_nil, o_nil, POp.ev, Opd.ev, EOp.ev, env0, gu, gv, setD, resV, List.set, List.map, List.map_nil, List.map_cons, Option.map_none, Option.map_some, Option.some.injEq, exists_eq_left', pickV, binV, convV, load1V, max2V, min2V, nilchkV, unV, boolEq, isNilV, fadV, extV, slenV, ne_eq, not_true_eq_false, if_false, if_true, ite_true, ite_false, Bool.false_eq_true, Bool.true_eq_false, beq_true, beq_false, beq_self_eq_true, Bool.not_true, Bool.not_false, reduceCtorEq, List.getElem?_toArray, List.getElem?_cons_zero, List.getElem?_cons_succ, cmpT_eq]
        refine Test.split (fun hg => ?_) (fun hg => ?_)
        · have hg' : ordT o l[i] = 0 := by simpa using hg
          rw [if_pos hg'] at hm
          obtain ⟨h6, a6⟩ := VecT.at hv4 (i := Q.length) (by simp)
          rw [get_mid (B := []) rfl] at a6
          obtain ⟨cs, t1, hv6⟩ := VecT.putf (lim := lim) hv4 (by omega) (i := Q.length) (t := o) (by simp) (W (o.c + l[i].c)) (j := 0) (by decide)
          simp only [Nat.add_zero] at t1
          have e6 : (Q ++ [o]).set Q.length (o.upd 0 (W (o.c + l[i].c))) = Q ++ [{ o with c := W (o.c + l[i].c) }] := by
            rw [List.set_append_right _ _ (by omega), Nat.sub_self]
            rfl
          rw [e6] at hv6
          refine s_reg1 ?_
          simp only [o_cont, o_callT, callV_fn, o_pure, o_eff, o_callF, o_callN, o_guard, gk_tt, gk_ff, gk_tf, gk_ft, gk_u, t_op, t_alt, t_nil, o_nil, POp.ev, Opd.ev, EOp.ev, env0, gu, gv, setD, resV, List.set, List.map, List.map_nil, List.map_cons, Option.map_none, Option.map_some, Option.some.injEq, exists_eq_left', pickV, binV, convV, load1V, max2V, min2V, nilchkV, unV, boolEq, isNilV, fadV, extV, slenV, ne_eq, not_true_eq_false, if_false, if_true, ite_true, ite_false, Bool.false_eq_true, Bool.true_eq_false, beq_true, beq_false, beq_self_eq_true, Bool.not_true, Bool.not_false, reduceCtorEq, List.getElem?_toArray, List.getElem?_cons_zero, List.getElem?_cons_succ, w1, h6, Nat.add_zero, a6.c, hB4.c0, t1]
          simp +decide only [p_seq_normal, p_seq_ret, p_seq_exit, p_block_normal, p_block_ret, p_block_exit, p_fin_ret, p_fin_normal, reduceIte, Nat.reduceEqDiff, resV, resOne, resL, gv, Option.some.injEq, exists_eq_left', Option.bind_some, Option.map_some, List.getD_cons_zero, List.getD_cons_succ]
          refine ⟨b, v, _, hv6, hb, ?_, Chg.ext (hx3.trans hx4) (Chg.put _ _ _) hb, by simp at hol ⊢; omega, ⟨Q, _, rfl, hm⟩, rfl⟩
          show b ≤ H4.next
          omega
        · have hg' : ¬ ordT o l[i] = 0 := by simpa using hg
          rw [if_neg hg'] at hm
          exact push H4 _ hx4 ⟨Q ++ [o], l[i], rfl, hm⟩
    rintro e' H5 ⟨b', v', out', g1, g2, g3, g4, g5, g6, rfl⟩
    simp +decide only [p_seq_normal, p_seq_ret, p_seq_exit, p_block_normal, p_block_ret, p_block_exit, p_fin_ret, p_fin_normal, reduceIte, Nat.reduceEqDiff, resV, resOne, resL, gv, Option.some.injEq, exists_eq_left', Option.bind_some, Option.map_some, List.getD_cons_zero, List.getD_cons_succ]
    refine s_reg1 ?_
    simp only [o_cont, o_callT, callV_fn, o_pure, o_eff, o_callF, o_callN, o_guard, gk_tt, gk_ff, gk_tf, gk_ft, gk_u, t_op, t_alt, t_nil, o_nil, POp.ev, Opd.ev, EOp.ev, env0, gu, gv, setD, resV, List.set, List.map, List.map_nil, List.map_cons, Option.map_none, Option.map_some, Option.some.injEq, exists_eq_left', pickV, binV, convV, load1V, max2V, min2V, nilchkV, unV, boolEq, isNilV, fadV, extV, slenV, ne_eq, not_true_eq_false, if_false, if_true, ite_true, ite_false, Bool.false_eq_true, Bool.true_eq_false, beq_true, beq_false, beq_self_eq_true, Bool.not_true, Bool.not_false, reduceCtorEq, List.getElem?_toArray, List.getElem?_cons_zero, List.getElem?_cons_succ, add1 (i := i) (by omega)]
    simp +decide only [p_seq_normal, p_seq_ret, p_seq_exit, p_block_normal, p_block_ret, p_block_exit, p_fin_ret, p_fin_normal, reduceIte, Nat.reduceEqDiff, resV, resOne, resL, gv, Option.some.injEq, exists_eq_left', Option.bind_some, Option.map_some, List.getD_cons_zero, List.getD_cons_succ]
    exact leave b' v' out' H5 _ _ ⟨by omega, g6⟩ g5 g1 g2 g3 g4
  · have hge : i = l.length := by simp at hlt; omega
    subst hge
    have hout : out = mrg l := by
      rcases hst with ⟨h0, rfl⟩ | ⟨h0, Q, o, rfl, hm⟩
      · have : l = [] := List.length_eq_zero_iff.1 h0
        rw [this]; rfl
      · rw [List.drop_length, mrgS] at hm
        exact hm
    subst hout
    refine s_exit1 ?_
    simp +decide only [p_seq_normal, p_seq_ret, p_seq_exit, p_block_normal, p_block_ret, p_block_exit, p_fin_ret, p_fin_normal, reduceIte, Nat.reduceEqDiff, resV, resOne, resL, gv, Option.some.injEq, exists_eq_left', Option.bind_some, Option.map_some, List.getD_cons_zero, List.getD_cons_succ]
    refine s_reg ?_
    simp only [o_cont, o_callT, callV_fn, o_pure, o_eff, o_callF, o_callN, o_guard, gk_tt, gk_ff, gk_tf, gk_ft, gk_u, t_op, t_alt, t_nil, o_nil, POp.ev, Opd.ev, EOp.ev, env0, gu, gv, setD, resV, List.set, List.map, List.map_nil, List.map_cons, Option.map_none, Option.map_some, Option.some.injEq, exists_eq_left', pickV, binV, convV, load1V, max2V, min2V, nilchkV, unV, boolEq, isNilV, fadV, extV, slenV, ne_eq, not_true_eq_false, if_false, if_true, ite_true, ite_false, Bool.false_eq_true, Bool.true_eq_false, beq_true, beq_false, beq_self_eq_true, Bool.not_true, Bool.not_false, reduceCtorEq, List.getElem?_toArray, List.getElem?_cons_zero, List.getElem?_cons_succ]
    refine (deleteFuncG_ok lim v b _ _ hv (by omega) (by omega) hbH (by omega)).mono ?_
    rintro _ H3 ⟨hv3, hc3⟩
    have hn3 := hc3.next
    simp only [o_cont, o_callT, callV_fn, o_pure, o_eff, o_callF, o_callN, o_guard, gk_tt, gk_ff, gk_tf, gk_ft, gk_u, t_op, t_alt, t_nil, o_nil, POp.ev, Opd.ev, EOp.ev, env0, gu, gv, setD, resV, List.set, List.map, List.map_nil, List.map_cons, Option.map_none, Option.map_some, Option.some.injEq, exists_eq_left', pickV, binV, convV, load1V, max2V, min2V, nilchkV, unV, boolEq, isNilV, fadV, extV, slenV, ne_eq, not_true_eq_false, if_false, if_true, ite_true, ite_false, Bool.false_eq_true, Bool.true_eq_false, beq_true, beq_false, beq_self_eq_true, Bool.not_true, Bool.not_false, reduceCtorEq, List.getElem?_toArray, List.getElem?_cons_zero, List.getElem?_cons_succ]
    refine s_ret1 ?_
    simp +decide only [p_seq_normal, p_seq_ret, p_seq_exit, p_block_normal, p_block_ret, p_block_exit, p_fin_ret, p_fin_normal, reduceIte, Nat.reduceEqDiff, resV, resOne, resL, gv, Option.some.injEq, exists_eq_left', Option.bind_some, Option.map_some, List.getD_cons_zero, List.getD_cons_succ]
    exact ⟨b, by omega, by omega, hv3, Chg.ext (hx12.trans hx) hc3 (by omega)⟩
end Go.Proofs.Ytaimceodhhgnnaa
