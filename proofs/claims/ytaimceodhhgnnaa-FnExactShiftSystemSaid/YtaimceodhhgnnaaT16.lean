/- Systems of polynomials, part 16 of the walk: insertion sort of any terms, in place; no condition beyond stated lengths. -/
import Derived.Test.YtaimceodhhgnnaaT10
namespace Go.Proofs.Ytaimceodhhgnnaa
open Go.Ab
set_option linter.unusedSimpArgs false
set_option linter.unusedVariables false

/-! ### the order -/
theorem sgn3_lt (n : Int) : sgn3 n < 0 ↔ n < 0 := by
  unfold sgn3
  rcases Int.lt_trichotomy n 0 with h | h | h
  · rw [if_neg (by omega), if_pos h]; omega
  · rw [if_neg (by omega), if_neg (by omega)]; omega
  · rw [if_pos h]; omega
theorem ordT_lt (a b : Tm) : ordT a b < 0 ↔ a.x < b.x ∨ (a.x = b.x ∧ (a.y < b.y ∨ (a.y = b.y ∧ a.z < b.z))) := by
  unfold ordT
  by_cases h1 : a.x = b.x
  · by_cases h2 : a.y = b.y
    · rw [if_neg (by simp [h1]), if_neg (by simp [h2]), sgn3_lt]; omega
    · rw [if_neg (by simp [h1]), if_pos h2, sgn3_lt]; omega
  · rw [if_pos h1, sgn3_lt]; omega
theorem ordT_trans {a b c : Tm} (h1 : ordT a b < 0) (h2 : ordT b c < 0) : ordT a c < 0 := by
  rw [ordT_lt] at *
  omega
theorem ordT_zero (a b : Tm) : ordT a b = 0 ↔ a.x = b.x ∧ a.y = b.y ∧ a.z = b.z := by
  have h1 := ordT_lt a b
  have h2 := ordT_lt b a
  have h3 := ordT_neg a b
  omega

/-! ### a term put in from behind -/
def insRev (t : Tm) : List Tm → List Tm
  | [] => [t]
  | x :: r => if ordT t x < 0 then x :: insRev t r else t :: x :: r
def insB (P : List Tm) (t : Tm) : List Tm := (insRev t P.reverse).reverse
theorem insB_nil (t : Tm) : insB [] t = [t] := rfl
theorem insB_lt {P : List Tm} {x t : Tm} (h : ordT t x < 0) : insB (P ++ [x]) t = insB P t ++ [x] := by
  simp [insB, insRev, h]
theorem insB_ge {P : List Tm} {x t : Tm} (h : ¬ ordT t x < 0) : insB (P ++ [x]) t = P ++ [x, t] := by
  simp [insB, insRev, h]
theorem insB_length (P : List Tm) (t : Tm) : (insB P t).length = P.length + 1 := by
  have : ∀ l : List Tm, (insRev t l).length = l.length + 1 := by
    intro l
    induction l with
    | nil => rfl
    | cons x r ih =>
      unfold insRev
      split
      · simp [ih]
      · simp
  simp [insB, this]
def isortF (P : List Tm) : List Tm → List Tm
  | [] => P
  | t :: l => isortF (insB P t) l
theorem isortF_length : ∀ (l P : List Tm), (isortF P l).length = P.length + l.length
  | [], P => by simp [isortF]
  | t :: l, P => by rw [isortF, isortF_length l, insB_length, List.length_cons]; omega

theorem swap_at {A B : List Tm} {x y : Tm} : ((A ++ x :: y :: B).set (A.length + 1) x).set A.length y = A ++ y :: x :: B := by
  rw [List.set_append_right _ _ (by omega)]
  have : A.length + 1 - A.length = 1 := by omega
  rw [this, List.set_append_right _ _ (by omega), Nat.sub_self]
  rfl

theorem VecT.swap {lim : Nat} {H : AHeap} {b : Nat} {v : Value} {A B : List Tm} {x y : Tm} (h : VecT H b v (A ++ x :: y :: B)) (hl : lim ≤ b) :
    ∃ H1 H2, storeH lim H 4 (.pointer (some ⟨b, (A.length + 1) * 4, none⟩)) (tv x) = some (undef, H1) ∧ storeH lim H1 4 (.pointer (some ⟨b, A.length * 4, none⟩)) (tv y) = some (undef, H2) ∧ VecT H2 b v (A ++ y :: x :: B) ∧ Chg b H H2 ∧ H2.next = H.next := by
  obtain ⟨cs1, h1, g1⟩ := VecT.putT (lim := lim) h hl (i := A.length + 1) (by simp) x
  obtain ⟨cs2, h2, g2⟩ := VecT.putT (lim := lim) g1 hl (i := A.length) (by simp) y
  rw [swap_at] at g2
  exact ⟨_, _, h1, h2, g2, (Chg.put b H cs1).trans (Chg.put b _ cs2), rfl⟩

/-- insertion sort of the part from a to b -/
theorem insSort2_ok (lim : Nat) (s : Value) (blk : Nat) (A M B : List Tm) (H : AHeap) (hs : VecT H blk s (A ++ M ++ B)) (hl : lim ≤ blk) (hb : blk < H.next ∨ M = []) (hn : (A ++ M ++ B).length ≤ 100000) :
    ACalls Try.prog lim n_slices_insertionSortCmpFunc_impl_Term [s, .int .i64 A.length, .int .i64 ((A.length + M.length : Nat) : Int), cmpF] H fun v H' => VecT H' blk s (A ++ isortF [] M ++ B) ∧ Chg blk H H' := by
  have hlen : A.length + M.length + B.length ≤ 100000 := by simpa [Nat.add_assoc] using hn
  refine is_slices_insertionSortCmpFunc_impl_Term.go rfl ?_
  unfold c_slices_insertionSortCmpFunc_impl_Term
  refine s_reg ?_
  simp only [o_cont, o_callT, callV_fn, o_pure, o_eff, o_callF, o_callN, o_guard, gk_tt, gk_ff, gk_tf, gk_ft, gk_u, t_op, t_alt, t_nil, o_nil, POp.ev, Opd.ev, EOp.ev, env0, gu, gv, setD, resV, List.set, List.map, List.map_nil, List.map_cons, Option.map_none, Option.map_some, Option.some.injEq, exists_eq_left', pickV, binV, convV, load1V, max2V, min2V, nilchkV, unV, boolEq, isNilV, fadV, extV, slenV, ne_eq, not_true_eq_false, if_false, if_true, ite_true, ite_false, Bool.false_eq_true, Bool.true_eq_false, beq_true, beq_false, beq_self_eq_true, Bool.not_true, Bool.not_false, reduceCtorEq, List.getElem?_toArray, List.getElem?_cons_zero, List.getElem?_cons_succ, add1 (i := A.length) (by omega)]
  refine s_block1 ?_
  cases hM : M with
  | nil =>
    subst hM
    refine s_loop1 (fun k e' H' => H' = H ∧ e' = [s, .int .i64 A.length, .int .i64 ((A.length + ([] : List Tm).length : Nat) : Int), cmpF, .int .i64 ((A.length + 1 : Nat) : Int), undef]) 0 ⟨rfl, rfl⟩ ?_
    rintro k e' H' ⟨rfl, rfl⟩
    have hd : decide (((A.length + 1 : Nat) : Int) < ((A.length + ([] : List Tm).length : Nat) : Int)) = false := decide_eq_false (by simp; omega)
    refine s_test ?_
    simp only [o_cont, o_callT, callV_fn, o_pure, o_eff, o_callF, o_callN, o_guard, gk_tt, gk_ff, gk_tf, gk_ft, gk_u, t_op, t_alt, t_nil, o_nil, POp.ev, Opd.ev, EOp.ev, env0, gu, gv, setD, resV, List.set, List.map, List.map_nil, List.map_cons, Option.map_none, Option.map_some, Option.some.injEq, exists_eq_left', pickV, binV, convV, load1V, max2V, min2V, nilchkV, unV, boolEq, isNilV, fadV, extV, slenV, ne_eq, not_true_eq_false, if_false, if_true, ite_true, ite_false, Bool.false_eq_true, Bool.true_eq_false, beq_true, beq_false, beq_self_eq_true, Bool.not_true, Bool.not_false, reduceCtorEq, List.getElem?_toArray, List.getElem?_cons_zero, List.getElem?_cons_succ, hd]
    refine Test.false_ (s_exit1 ?_)
    simp +decide only [p_seq_normal, p_seq_ret, p_seq_exit, p_block_normal, p_block_ret, p_block_exit, p_fin_ret, p_fin_normal, reduceIte, Nat.reduceEqDiff, resV, resOne, resL, gv, Option.some.injEq, exists_eq_left', Option.bind_some, Option.map_some, List.getD_cons_zero, List.getD_cons_succ]
    exact ⟨by simpa [isortF] using hs, Chg.refl _ _⟩
  | cons m0 M0 =>
  rw [← hM]
  have hMl : 1 ≤ M.length := by rw [hM]; simp
  have hblk : blk < H.next := by
    rcases hb with hb | hb
    · exact hb
    · rw [hM] at hb; cases hb
  -- P: the part that is in order; R: what is to come
  refine s_loop1 (fun k e' H' => ∃ (P R : List Tm) (x5 : Value), 1 ≤ P.length ∧ P.length + R.length = M.length ∧ R.length = k ∧ isortF P R = isortF [] M ∧ VecT H' blk s (A ++ P ++ R ++ B) ∧ Chg blk H H' ∧
    e' = [s, .int .i64 A.length, .int .i64 ((A.length + M.length : Nat) : Int), cmpF, .int .i64 ((A.length + P.length : Nat) : Int), x5]) M0.length ⟨[m0], M0, _, by simp, by rw [hM]; simp; omega, rfl, by rw [hM]; rfl, by rw [hM] at hs; simpa using hs, Chg.refl _ _, rfl⟩ ?_
  rintro k e' H' ⟨P, R, x5, hP1, hPR, hRk, hiso, hv, hc, rfl⟩
  have hnc := hc.next
  refine s_test ?_
  simp only [o_cont, o_callT, callV_fn, o_pure, o_eff, o_callF, o_callN, o_guard, gk_tt, gk_ff, gk_tf, gk_ft, gk_u, t_op, t_alt, t_nil, o_nil, POp.ev, Opd.ev, EOp.ev, env0, gu, gv, setD, resV, List.set, List.map, List.map_nil, List.map_cons, Option.map_none, Option.map_some, Option.some.injEq, exists_eq_left', pickV, binV, convV, load1V, max2V, min2V, nilchkV, unV, boolEq, isNilV, fadV, extV, slenV, ne_eq, not_true_eq_false, if_false, if_true, ite_true, ite_false, Bool.false_eq_true, Bool.true_eq_false, beq_true, beq_false, beq_self_eq_true, Bool.not_true, Bool.not_false, reduceCtorEq, List.getElem?_toArray, List.getElem?_cons_zero, List.getElem?_cons_succ]
  refine Test.split (fun hlt => ?_) (fun hlt => ?_)
  · have hlt' : P.length < M.length := by simp at hlt; omega
    obtain ⟨t, R', rfl⟩ : ∃ t R', R = t :: R' := by
      cases R with
      | nil => simp at hPR; omega
      | cons t R' => exact ⟨t, R', rfl⟩
    simp only [List.length_cons] at hPR hRk
    refine s_skip1 ?_
    simp +decide only [p_seq_normal, p_seq_ret, p_seq_exit, p_block_normal, p_block_ret, p_block_exit, p_fin_ret, p_fin_normal, reduceIte, Nat.reduceEqDiff, resV, resOne, resL, gv, Option.some.injEq, exists_eq_left', Option.bind_some, Option.map_some, List.getD_cons_zero, List.getD_cons_succ]
    refine s_block ?_
    refine s_reg ?_
    simp only [o_cont, o_callT, callV_fn, o_pure, o_eff, o_callF, o_callN, o_guard, gk_tt, gk_ff, gk_tf, gk_ft, gk_u, t_op, t_alt, t_nil, o_nil, POp.ev, Opd.ev, EOp.ev, env0, gu, gv, setD, resV, List.set, List.map, List.map_nil, List.map_cons, Option.map_none, Option.map_some, Option.some.injEq, exists_eq_left', pickV, binV, convV, load1V, max2V, min2V, nilchkV, unV, boolEq, isNilV, fadV, extV, slenV, ne_eq, not_true_eq_false, if_false, if_true, ite_true, ite_false, Bool.false_eq_true, Bool.true_eq_false, beq_true, beq_false, beq_self_eq_true, Bool.not_true, Bool.not_false, reduceCtorEq, List.getElem?_toArray, List.getElem?_cons_zero, List.getElem?_cons_succ]
    refine s_block1 ?_
    refine s_loop1 (fun k2 e' H2 => ∃ (P1 P2 : List Tm), P = P1 ++ P2 ∧ P1.length = k2 ∧ insB P t = insB P1 t ++ P2 ∧ VecT H2 blk s (A ++ (P1 ++ t :: P2) ++ R' ++ B) ∧ Chg blk H H2 ∧
      e' = [s, .int .i64 A.length, .int .i64 ((A.length + M.length : Nat) : Int), cmpF, .int .i64 ((A.length + P.length : Nat) : Int), .int .i64 ((A.length + P1.length : Nat) : Int)]) P.length ⟨P, [], by simp, rfl, by simp, by simpa using hv, hc, rfl⟩ ?_
    rintro k2 e' H2 ⟨P1, P2, hPP, hk2, hins, hv2, hc2, rfl⟩
    have hnc2 := hc2.next
    have leave : ∀ (X : List Tm) (H3 : AHeap), X = insB P t → VecT H3 blk s (A ++ X ++ R' ++ B) → Chg blk H H3 →
        Round (fun k e' H' => ∃ (P R : List Tm) (x5 : Value), 1 ≤ P.length ∧ P.length + R.length = M.length ∧ R.length = k ∧ isortF P R = isortF [] M ∧ VecT H' blk s (A ++ P ++ R ++ B) ∧ Chg blk H H' ∧
          e' = [s, .int .i64 A.length, .int .i64 ((A.length + M.length : Nat) : Int), cmpF, .int .i64 ((A.length + P.length : Nat) : Int), x5]) k [s, .int .i64 A.length, .int .i64 ((A.length + M.length : Nat) : Int), cmpF, .int .i64 ((A.length + P.length + 1 : Nat) : Int), .int .i64 ((A.length + P1.length : Nat) : Int)] H3 := by
      rintro X H3 rfl hv3 hc3
      have hil := insB_length P t
      exact Round.mk (k - 1) (by omega) ⟨insB P t, R', _, by omega, by omega, by omega, hiso, hv3, hc3, by rw [hil]; rfl⟩
    refine s_test ?_
    rcases List.eq_nil_or_concat P1 with rfl | ⟨P0, x, hP1e⟩
    · -- the term has come to the front
      have hd : decide (((A.length + ([] : List Tm).length : Nat) : Int) > (A.length : Int)) = false := decide_eq_false (by simp)
      simp only [o_cont, o_callT, callV_fn, o_pure, o_eff, o_callF, o_callN, o_guard, gk_tt, gk_ff, gk_tf, gk_ft, gk_u, t_op, t_alt, t_nil, o_nil, POp.ev, Opd.ev, EOp.ev, env0, gu, gv, setD, resV, List.set, List.map, List.map_nil, List.map_cons, Option.map_none, Option.map_some, Option.some.injEq, exists_eq_left', pickV, binV, convV, load1V, max2V, min2V, nilchkV, unV, boolEq, isNilV, fadV, extV, slenV, ne_eq, not_true_eq_false, if_false, if_true, ite_true, ite_false, Bool.false_eq_true, Bool.true_eq_false, beq_true, beq_false, beq_self_eq_true, Bool.not_true, Bool.not_false, reduceCtorEq, List.getElem?_toArray, List.getElem?_cons_zero, List.getElem?_cons_succ, hd]
      refine Test.false_ (s_exit1 ?_)
      simp +decide only [p_seq_normal, p_seq_ret, p_seq_exit, p_block_normal, p_block_ret, p_block_exit, p_fin_ret, p_fin_normal, reduceIte, Nat.reduceEqDiff, resV, resOne, resL, gv, Option.some.injEq, exists_eq_left', Option.bind_some, Option.map_some, List.getD_cons_zero, List.getD_cons_succ]
      refine s_reg1 ?_
      simp only [o_cont, o_callT, callV_fn, o_pure, o_eff, o_callF, o_callN, o_guard, gk_tt, gk_ff, gk_tf, gk_ft, gk_u, t_op, t_alt, t_nil, o_nil, POp.ev, Opd.ev, EOp.ev, env0, gu, gv, setD, resV, List.set, List.map, List.map_nil, List.map_cons, Option.map_none, Option.map_some, Option.some.injEq, exists_eq_left', pickV, binV, convV, load1V, max2V, min2V, nilchkV, unV, boolEq, isNilV, fadV, extV, slenV, ne_eq, not_true_eq_false, if_false, if_true, ite_true, ite_false, Bool.false_eq_true, Bool.true_eq_false, beq_true, beq_false, beq_self_eq_true, Bool.not_true, Bool.not_false, reduceCtorEq, List.getElem?_toArray, List.getElem?_cons_zero, List.getElem?_cons_succ, add1 (i := A.length + P.length) (by omega)]
      simp +decide only [p_seq_normal, p_seq_ret, p_seq_exit, p_block_normal, p_block_ret, p_block_exit, p_fin_ret, p_fin_normal, reduceIte, Nat.reduceEqDiff, resV, resOne, resL, gv, Option.some.injEq, exists_eq_left', Option.bind_some, Option.map_some, List.getD_cons_zero, List.getD_cons_succ]
      exact leave _ _ (by rw [hins, insB_nil]; rfl) hv2 hc2
    · rw [List.concat_eq_append] at hP1e
      subst hP1e
      have hsh : A ++ (P0 ++ [x] ++ t :: P2) ++ R' ++ B = (A ++ P0) ++ x :: t :: (P2 ++ R' ++ B) := by simp
      rw [hsh] at hv2
      have hPl : (P0 ++ [x]).length = P0.length + 1 := by simp
      have hd : decide (((A.length + (P0 ++ [x]).length : Nat) : Int) > (A.length : Int)) = true := decide_eq_true (by rw [hPl]; omega)
      have hPlen : P.length = P0.length + 1 + P2.length := by rw [hPP]; simp; omega
      have hw : IntKind.i64.wrap (((A.length + (P0 ++ [x]).length : Nat) : Int) - 1) = ((A.length + P0.length : Nat) : Int) := by rw [hPl, IntKind.wrap_i64]; omega
      have hidx : A.length + (P0 ++ [x]).length = (A ++ P0).length + 1 := by rw [hPl]; simp; omega
      have hidx0 : A.length + P0.length = (A ++ P0).length := by simp
      obtain ⟨j1, a1⟩ := VecT.at hv2 (i := (A ++ P0).length + 1) (by simp; omega)
      obtain ⟨j2, a2⟩ := VecT.at hv2 (i := (A ++ P0).length) (by simp)
      have e1 : ((A ++ P0) ++ x :: t :: (P2 ++ R' ++ B))[(A ++ P0).length + 1]'(by simp; omega) = t := by
        rw [List.getElem_append_right (by omega)]
        simp
      have e2 : ((A ++ P0) ++ x :: t :: (P2 ++ R' ++ B))[(A ++ P0).length]'(by simp) = x := by
        rw [List.getElem_append_right (by omega)]
        simp
      rw [e1] at a1
      rw [e2] at a2
      rw [hidx] at hd hw ⊢
      rw [hidx0] at hw
      simp only [o_cont, o_callT, callV_fn, o_pure, o_eff, o_callF, o_callN, o_guard, gk_tt, gk_ff, gk_tf, gk_ft, gk_u, t_op, t_alt, t_nil, o_nil, POp.ev, Opd.ev, EOp.ev, env0, gu, gv, setD, resV, List.set, List.map, List.map_nil, List.map_cons, Option.map_none, Option.map_some, Option.some.injEq, exists_eq_left', pickV, binV, convV, load1V, max2V, min2V, nilchkV, unV, boolEq, isNilV, fadV, extV, slenV, ne_eq, not_true_eq_false, if_false, if_true, ite_true, ite_false, Bool.false_eq_true, Bool.true_eq_false, beq_true, beq_false, beq_self_eq_true, Bool.not_true, Bool.not_false, reduceCtorEq, List.getElem?_toArray, List.getElem?_cons_zero, List.getElem?_cons_succ, hd, hw, j1, a1.all, j2, a2.all]
      refine (compareTerms_ok _ _ _ _).mono ?_
      rintro _ H3 ⟨rfl, hx3⟩
      have hv3 := VecT.ext hv2 hx3
      have hc3 := hc2.trans (Chg.of_ext hx3)
      simp only [o_cont, o_callT, callV_fn, o_pure, o_eff, o_callF, o_callN, o_guard, gk_tt, gk_ff, gk_tf, gk_ft, gk_u, t_op, t_alt, t_nil, o_nil, POp.ev, Opd.ev, EOp.ev, env0, gu, gv, setD, resV, List.set, List.map, List.map_nil, List.map_cons, Option.map_none, Option.map_some, Option.some.injEq, exists_eq_left', pickV, binV, convV, load1V, max2V, min2V, nilchkV, unV, boolEq, isNilV, fadV, extV, slenV, ne_eq, not_true_eq_false, if_false, if_true, ite_true, ite_false, Bool.false_eq_true, Bool.true_eq_false, beq_true, beq_false, beq_self_eq_true, Bool.not_true, Bool.not_false, reduceCtorEq, List.getElem?_toArray, List.getElem?_cons_zero, List.getElem?_cons_succ, cmpT_eq]
      refine Test.split (fun hg => ?_) (fun hg => ?_)
      · have hlt3 : ordT t x < 0 := by simpa using hg
        obtain ⟨j1, a1⟩ := VecT.at hv3 (i := (A ++ P0).length + 1) (by simp; omega)
        obtain ⟨j2, a2⟩ := VecT.at hv3 (i := (A ++ P0).length) (by simp)
        rw [e1] at a1
        rw [e2] at a2
        obtain ⟨H4, H5, t1, t2, hv5, hc5, hn5⟩ := VecT.swap (lim := lim) hv3 hl
        refine s_skip1 ?_
        simp +decide only [p_seq_normal, p_seq_ret, p_seq_exit, p_block_normal, p_block_ret, p_block_exit, p_fin_ret, p_fin_normal, reduceIte, Nat.reduceEqDiff, resV, resOne, resL, gv, Option.some.injEq, exists_eq_left', Option.bind_some, Option.map_some, List.getD_cons_zero, List.getD_cons_succ]
        refine s_block ?_
        refine s_reg1 ?_
        simp only [o_cont, o_callT, callV_fn, o_pure, o_eff, o_callF, o_callN, o_guard, gk_tt, gk_ff, gk_tf, gk_ft, gk_u, t_op, t_alt, t_nil, o_nil, POp.ev, Opd.ev, EOp.ev, env0, gu, gv, setD, resV, List.set, List.map, List.map_nil, List.map_cons, Option.map_none, Option.map_some, Option.some.injEq, exists_eq_left', pickV, binV, convV, load1V, max2V, min2V, nilchkV, unV, boolEq, isNilV, fadV, extV, slenV, ne_eq, not_true_eq_false, if_false, if_true, ite_true, ite_false, Bool.false_eq_true, Bool.true_eq_false, beq_true, beq_false, beq_self_eq_true, Bool.not_true, Bool.not_false, reduceCtorEq, List.getElem?_toArray, List.getElem?_cons_zero, List.getElem?_cons_succ, hw, j1, a1.all, j2, a2.all, t1, t2]
        simp +decide only [p_seq_normal, p_seq_ret, p_seq_exit, p_block_normal, p_block_ret, p_block_exit, p_fin_ret, p_fin_normal, reduceIte, Nat.reduceEqDiff, resV, resOne, resL, gv, Option.some.injEq, exists_eq_left', Option.bind_some, Option.map_some, List.getD_cons_zero, List.getD_cons_succ]
        refine s_reg1 ?_
        simp only [o_cont, o_callT, callV_fn, o_pure, o_eff, o_callF, o_callN, o_guard, gk_tt, gk_ff, gk_tf, gk_ft, gk_u, t_op, t_alt, t_nil, o_nil, POp.ev, Opd.ev, EOp.ev, env0, gu, gv, setD, resV, List.set, List.map, List.map_nil, List.map_cons, Option.map_none, Option.map_some, Option.some.injEq, exists_eq_left', pickV, binV, convV, load1V, max2V, min2V, nilchkV, unV, boolEq, isNilV, fadV, extV, slenV, ne_eq, not_true_eq_false, if_false, if_true, ite_true, ite_false, Bool.false_eq_true, Bool.true_eq_false, beq_true, beq_false, beq_self_eq_true, Bool.not_true, Bool.not_false, reduceCtorEq, List.getElem?_toArray, List.getElem?_cons_zero, List.getElem?_cons_succ, hw]
        simp +decide only [p_seq_normal, p_seq_ret, p_seq_exit, p_block_normal, p_block_ret, p_block_exit, p_fin_ret, p_fin_normal, reduceIte, Nat.reduceEqDiff, resV, resOne, resL, gv, Option.some.injEq, exists_eq_left', Option.bind_some, Option.map_some, List.getD_cons_zero, List.getD_cons_succ]
        refine Round.mk (k2 - 1) (by omega) ⟨P0, x :: P2, by rw [hPP]; simp, by omega, ?_, ?_, hc3.trans hc5, by rw [← hidx0]⟩
        · rw [hins, insB_lt hlt3]
          simp
        · have : A ++ (P0 ++ t :: (x :: P2)) ++ R' ++ B = (A ++ P0) ++ t :: x :: (P2 ++ R' ++ B) := by simp
          rw [this]
          exact hv5
      · have hge3 : ¬ ordT t x < 0 := by simpa using hg
        refine s_exit1 ?_
        simp +decide only [p_seq_normal, p_seq_ret, p_seq_exit, p_block_normal, p_block_ret, p_block_exit, p_fin_ret, p_fin_normal, reduceIte, Nat.reduceEqDiff, resV, resOne, resL, gv, Option.some.injEq, exists_eq_left', Option.bind_some, Option.map_some, List.getD_cons_zero, List.getD_cons_succ]
        refine s_reg1 ?_
        simp only [o_cont, o_callT, callV_fn, o_pure, o_eff, o_callF, o_callN, o_guard, gk_tt, gk_ff, gk_tf, gk_ft, gk_u, t_op, t_alt, t_nil, o_nil, POp.ev, Opd.ev, EOp.ev, env0, gu, gv, setD, resV, List.set, List.map, List.map_nil, List.map_cons, Option.map_none, Option.map_some, Option.some.injEq, exists_eq_left', pickV, binV, convV, load1V, max2V, min2V, nilchkV, unV, boolEq, isNilV, fadV, extV, slenV, ne_eq, not_true_eq_false, if_false, if_true, ite_true, ite_false, Bool.false_eq_true, Bool.true_eq_false, beq_true, beq_false, beq_self_eq_true, Bool.not_true, Bool.not_false, reduceCtorEq, List.getElem?_toArray, List.getElem?_cons_zero, List.getElem?_cons_succ, add1 (i := A.length + P.length) (by omega)]
        simp +decide only [p_seq_normal, p_seq_ret, p_seq_exit, p_block_normal, p_block_ret, p_block_exit, p_fin_ret, p_fin_normal, reduceIte, Nat.reduceEqDiff, resV, resOne, resL, gv, Option.some.injEq, exists_eq_left', Option.bind_some, Option.map_some, List.getD_cons_zero, List.getD_cons_succ]
        rw [← hidx]
        refine leave _ _ ?_ (by rw [← hsh] at hv3; exact hv3) hc3
        rw [hins, insB_ge hge3]
        simp
  · have hge : P.length = M.length := by simp at hlt; omega
    have hR0 : R = [] := List.length_eq_zero_iff.1 (by omega)
    subst hR0
    refine s_exit1 ?_
    simp +decide only [p_seq_normal, p_seq_ret, p_seq_exit, p_block_normal, p_block_ret, p_block_exit, p_fin_ret, p_fin_normal, reduceIte, Nat.reduceEqDiff, resV, resOne, resL, gv, Option.some.injEq, exists_eq_left', Option.bind_some, Option.map_some, List.getD_cons_zero, List.getD_cons_succ]
    rw [isortF] at hiso
    rw [← hiso]
    exact ⟨by simpa using hv, hc⟩
end Go.Proofs.Ytaimceodhhgnnaa
