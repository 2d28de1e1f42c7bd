/- Sorting of terms, part 2 of the walk of merging in place: two lists in order merged; no condition beyond stated lengths. -/
import Derived.Test.YtaimceodhhgnnaaT25
namespace Go.Proofs.Ytaimceodhhgnnaa
open Go.Ab
set_option linter.unusedSimpArgs false
set_option linter.unusedVariables false

theorem s_cutI {P : Program} {lim : Nat} {Q : Post} {e : List Value} {H : AHeap} {a b : ACode} (I : List Value → AHeap → Prop) (h : awp P lim a (Post.seq I (fun _ _ _ => False)) e H) (h1 : ∀ e' H', I e' H' → awp P lim b Q e' H') : awp P lim (.seq a b) Q e H :=
  s_cut1 I h h1

theorem ws_le {l : List Tm} (h : WS l) {i j : Nat} (hij : i ≤ j) (hj : j < l.length) : leT (l[i]'(by omega)) l[j] := by
  by_cases he : i = j
  · subst he
    have := ordT_neg l[i] l[i]
    unfold leT
    omega
  · exact List.pairwise_iff_getElem.1 h i j (by omega) hj (by omega)
theorem bnd_le {L R : List Tm} (hL : WS L) (hR : WS R) {k j : Nat} (hk : k ≤ L.length) (h : ∀ (h1 : 0 < k) (h2 : j < R.length), leT (L[k - 1]'(by omega)) R[j]) : ∀ l ∈ L.take k, ∀ r ∈ R.drop j, leT l r := by
  intro l hl r hr
  obtain ⟨i, hi, rfl⟩ := List.getElem_of_mem hl
  obtain ⟨i2, hi2, rfl⟩ := List.getElem_of_mem hr
  simp only [List.length_take, List.length_drop] at hi hi2
  rw [List.getElem_take, List.getElem_drop]
  have h1 := ws_le hL (i := i) (j := k - 1) (by omega) (by omega)
  have h2 := h (by omega) (by omega)
  have h3 := ws_le hR (i := j) (j := j + i2) (by omega) (by omega)
  exact leT_trans (leT_trans h1 h2) h3
theorem bnd_lt {L R : List Tm} (hL : WS L) (hR : WS R) {k j : Nat} (hj : j ≤ R.length) (h : ∀ (h1 : 0 < j) (h2 : k < L.length), ordT (R[j - 1]'(by omega)) L[k] < 0) : ∀ r ∈ R.take j, ∀ l ∈ L.drop k, ordT r l < 0 := by
  intro r hr l hl
  obtain ⟨i, hi, rfl⟩ := List.getElem_of_mem hl
  obtain ⟨i2, hi2, rfl⟩ := List.getElem_of_mem hr
  simp only [List.length_take, List.length_drop] at hi hi2
  rw [List.getElem_take, List.getElem_drop]
  have h1 := ws_le hR (i := i2) (j := j - 1) (by omega) (by omega)
  have h2 := h (by omega) (by omega)
  have h3 := ws_le hL (i := k) (j := k + i) (by omega) (by omega)
  exact lt_le_trans (le_lt_trans h1 h2) h3
theorem ws_take {l : List Tm} (h : WS l) (k : Nat) : WS (l.take k) := h.sublist (List.take_sublist _ _)
theorem ws_drop {l : List Tm} (h : WS l) (k : Nat) : WS (l.drop k) := h.sublist (List.drop_sublist _ _)

theorem merge_one {x : Tm} {R : List Tm} (hR : WS R) {p : Nat} (hp : p ≤ R.length) (h1 : p = 0 ∨ ∃ h : p - 1 < R.length, ordT R[p - 1] x < 0) (h2 : p = R.length ∨ ∃ h : p < R.length, ¬ ordT R[p] x < 0) :
    mergeF [x] R = R.take p ++ x :: R.drop p := by
  have a1 : ∀ r ∈ R.take p, ∀ l ∈ [x], ordT r l < 0 := by
    have := bnd_lt (L := [x]) (R := R) (List.pairwise_singleton _ _) hR (k := 0) (j := p) hp (by
      intro k1 k2
      rcases h1 with h1 | ⟨h, h1⟩
      · omega
      · simpa using h1)
    simpa using this
  have a2 : ∀ l ∈ [x], ∀ r ∈ R.drop p, leT l r := by
    have := bnd_le (L := [x]) (R := R) (List.pairwise_singleton _ _) hR (k := 1) (j := p) (by simp) (by
      intro k1 k2
      rcases h2 with h2 | ⟨h, h2⟩
      · omega
      · simpa [leT] using h2)
    simpa using this
  have e1 := mergeF_split [] (R.take p) [x] (R.drop p) (by simp) a1
  have e2 := mergeF_split [x] [] [] (R.drop p) a2 (by simp)
  rw [List.nil_append, List.take_append_drop] at e1
  rw [List.append_nil, List.nil_append] at e2
  rw [e1, e2, mergeF_nil, mergeF_nil_l, mergeF_nil_l]
  rfl
theorem merge_last {y : Tm} {L : List Tm} (hL : WS L) {p : Nat} (hp : p ≤ L.length) (h1 : p = 0 ∨ ∃ h : p - 1 < L.length, ¬ ordT y L[p - 1] < 0) (h2 : p = L.length ∨ ∃ h : p < L.length, ordT y L[p] < 0) :
    mergeF L [y] = L.take p ++ y :: L.drop p := by
  have a1 : ∀ l ∈ L.take p, ∀ r ∈ [y], leT l r := by
    have := bnd_le (L := L) (R := [y]) hL (List.pairwise_singleton _ _) (k := p) (j := 0) hp (by
      intro k1 k2
      rcases h1 with h1 | ⟨h, h1⟩
      · omega
      · simpa [leT] using h1)
    simpa using this
  have a2 : ∀ r ∈ [y], ∀ l ∈ L.drop p, ordT r l < 0 := by
    have := bnd_lt (L := L) (R := [y]) hL (List.pairwise_singleton _ _) (k := p) (j := 1) (by simp) (by
      intro k1 k2
      rcases h2 with h2 | ⟨h, h2⟩
      · omega
      · simpa using h2)
    simpa using this
  have e1 := mergeF_split (L.take p) [] (L.drop p) [y] a1 (by simp)
  have e2 := mergeF_split [] [y] (L.drop p) [] (by simp) a2
  rw [List.nil_append, List.take_append_drop] at e1
  rw [List.append_nil, List.nil_append] at e2
  rw [e1, e2, mergeF_nil, mergeF_nil, mergeF_nil_l]
  rfl

theorem half_ok {i j : Nat} (h : i + j < 1000000000) : IntKind.i64.wrap ((i : Int) + (j : Int)) = ((i + j : Nat) : Int) := addN (by omega)

theorem mid_ok {n m : Nat} (h : n < 1000000000) (hm : n / 2 = m) : IntKind.i64.wrap ((IntKind.u64.wrap (n : Int)).fdiv (2 ^ min (Int.toNat 1) IntKind.u64.bits)) = (m : Int) := by
  have e1 : IntKind.u64.wrap (n : Int) = (n : Int) := by
    have : (2 : Int) ^ IntKind.u64.bits = 18446744073709551616 := by decide
    simp only [IntKind.wrap, this, IntKind.signed, Bool.false_and]
    simp
    omega
  have e2 : (2 : Int) ^ min (Int.toNat 1) IntKind.u64.bits = 2 := by decide
  rw [e1, e2, Int.fdiv_eq_ediv_of_nonneg _ (by omega), IntKind.wrap_i64]
  omega

theorem symMerge_ok (lim : Nat) (s : Value) (blk : Nat) (hl : lim ≤ blk) : ∀ (N : Nat) (A L R B : List Tm) (H : AHeap), L.length + R.length ≤ N → VecT H blk s (A ++ L ++ R ++ B) → blk < H.next → WS L → WS R → L ≠ [] → R ≠ [] → A.length + L.length + R.length ≤ 100000 →
    ∀ {a m b : Int}, a = (A.length : Int) → m = ((A.length + L.length : Nat) : Int) → b = ((A.length + L.length + R.length : Nat) : Int) →
    ACalls Try.prog lim n_slices_symMergeCmpFunc_impl_Term [s, .int .i64 a, .int .i64 m, .int .i64 b, cmpF] H fun v H' => VecT H' blk s (A ++ mergeF L R ++ B) ∧ Chg blk H H' := by
  intro N
  induction N with
  | zero =>
    intro A L R B H hN _ _ _ _ hL0
    exact absurd (List.length_eq_zero_iff.1 (by omega)) hL0
  | succ N ih =>
  intro A L R B H hN hs hb hL hR hL0 hR0 hn a m b ha hm hbb
  subst ha hm hbb
  have e10 : ¬ (1 : Int) < 0 := by decide
  have hLp : 0 < L.length := List.length_pos_iff.2 hL0
  have hRp : 0 < R.length := List.length_pos_iff.2 hR0
  refine is_slices_symMergeCmpFunc_impl_Term.go rfl ?_
  unfold c_slices_symMergeCmpFunc_impl_Term
  have w0 : IntKind.i64.wrap (((A.length + L.length : Nat) : Int) - (A.length : Int)) = (L.length : Int) := by rw [subN (by omega) (by omega)]; omega
  have w1 : IntKind.i64.wrap (((A.length + L.length + R.length : Nat) : Int) - ((A.length + L.length : Nat) : Int)) = (R.length : Int) := by rw [subN (by omega) (by omega)]; omega
  refine s_test ?_
  simp only [o_cont, o_callT, callV_fn, o_pure, o_eff, o_callF, o_callN, o_guard, gk_tt, gk_ff, gk_tf, gk_ft, gk_u, t_op, t_alt, t_nil, o_nil, POp.ev, Opd.ev, EOp.ev, env0, gu, gv, setD, resV, List.set, List.map, List.map_nil, List.map_cons, Option.map_none, Option.map_some, Option.some.injEq, exists_eq_left', pickV, binV, convV, load1V, max2V, min2V, nilchkV, unV, boolEq, isNilV, fadV, extV, slenV, ne_eq, not_true_eq_false, if_false, if_true, ite_true, ite_false, Bool.false_eq_true, Bool.true_eq_false, beq_true, beq_false, beq_self_eq_true, Bool.not_true, Bool.not_false, reduceCtorEq, List.getElem?_toArray, List.getElem?_cons_zero, List.getElem?_cons_succ, w0]
  by_cases hL1 : L.length = 1
  · obtain ⟨x, rfl⟩ : ∃ x, L = [x] := List.length_eq_one_iff.1 hL1
    refine Test.true_ ?_
    refine s_reg ?_
    simp only [o_cont, o_callT, callV_fn, o_pure, o_eff, o_callF, o_callN, o_guard, gk_tt, gk_ff, gk_tf, gk_ft, gk_u, t_op, t_alt, t_nil, o_nil, POp.ev, Opd.ev, EOp.ev, env0, gu, gv, setD, resV, List.set, List.map, List.map_nil, List.map_cons, Option.map_none, Option.map_some, Option.some.injEq, exists_eq_left', pickV, binV, convV, load1V, max2V, min2V, nilchkV, unV, boolEq, isNilV, fadV, extV, slenV, ne_eq, not_true_eq_false, if_false, if_true, ite_true, ite_false, Bool.false_eq_true, Bool.true_eq_false, beq_true, beq_false, beq_self_eq_true, Bool.not_true, Bool.not_false, reduceCtorEq, List.getElem?_toArray, List.getElem?_cons_zero, List.getElem?_cons_succ]
    refine s_reg ?_
    simp only [o_cont, o_callT, callV_fn, o_pure, o_eff, o_callF, o_callN, o_guard, gk_tt, gk_ff, gk_tf, gk_ft, gk_u, t_op, t_alt, t_nil, o_nil, POp.ev, Opd.ev, EOp.ev, env0, gu, gv, setD, resV, List.set, List.map, List.map_nil, List.map_cons, Option.map_none, Option.map_some, Option.some.injEq, exists_eq_left', pickV, binV, convV, load1V, max2V, min2V, nilchkV, unV, boolEq, isNilV, fadV, extV, slenV, ne_eq, not_true_eq_false, if_false, if_true, ite_true, ite_false, Bool.false_eq_true, Bool.true_eq_false, beq_true, beq_false, beq_self_eq_true, Bool.not_true, Bool.not_false, reduceCtorEq, List.getElem?_toArray, List.getElem?_cons_zero, List.getElem?_cons_succ]
    refine s_block ?_
    have hR1 : A.length + [x].length = A.length + 1 := by simp
    refine s_loop1 (fun k e' H' => ∃ (p q : Nat) (x7 : Value), p ≤ q ∧ q ≤ R.length ∧ q - p = k ∧ (p = 0 ∨ ∃ h : p - 1 < R.length, ordT R[p - 1] x < 0) ∧ (q = R.length ∨ ∃ h : q < R.length, ¬ ordT R[q] x < 0) ∧ Ext H H' ∧
      e' = [s, .int .i64 A.length, .int .i64 ((A.length + [x].length : Nat) : Int), .int .i64 ((A.length + [x].length + R.length : Nat) : Int), cmpF, .int .i64 ((A.length + [x].length + p : Nat) : Int), .int .i64 ((A.length + [x].length + q : Nat) : Int), x7, undef, undef, undef, undef, undef, undef, undef, undef, undef, undef, undef, undef]) R.length ⟨0, R.length, _, by omega, by omega, by omega, .inl rfl, .inl rfl, Ext.refl _, rfl⟩ ?_
    rintro k e' H' ⟨p, q, x7, hpq, hqR, hk, hp, hq, hx, rfl⟩
    refine s_test ?_
    simp only [o_cont, o_callT, callV_fn, o_pure, o_eff, o_callF, o_callN, o_guard, gk_tt, gk_ff, gk_tf, gk_ft, gk_u, t_op, t_alt, t_nil, o_nil, POp.ev, Opd.ev, EOp.ev, env0, gu, gv, setD, resV, List.set, List.map, List.map_nil, List.map_cons, Option.map_none, Option.map_some, Option.some.injEq, exists_eq_left', pickV, binV, convV, load1V, max2V, min2V, nilchkV, unV, boolEq, isNilV, fadV, extV, slenV, ne_eq, not_true_eq_false, if_false, if_true, ite_true, ite_false, Bool.false_eq_true, Bool.true_eq_false, beq_true, beq_false, beq_self_eq_true, Bool.not_true, Bool.not_false, reduceCtorEq, List.getElem?_toArray, List.getElem?_cons_zero, List.getElem?_cons_succ]
    refine Test.split (fun hlt => ?_) (fun hlt => ?_)
    · have hlt' : p < q := by simp at hlt; omega
      refine s_skip1 ?_
      simp +decide only [p_seq_normal, p_seq_ret, p_seq_exit, p_block_normal, p_block_ret, p_block_exit, p_fin_ret, p_fin_normal, reduceIte, Nat.reduceEqDiff, resV, resOne, resL, gv, Option.some.injEq, exists_eq_left', Option.bind_some, Option.map_some, List.getD_cons_zero, List.getD_cons_succ]
      refine s_block1 ?_
      refine s_reg ?_
      simp only [o_cont, o_callT, callV_fn, o_pure, o_eff, o_callF, o_callN, o_guard, gk_tt, gk_ff, gk_tf, gk_ft, gk_u, t_op, t_alt, t_nil, o_nil, POp.ev, Opd.ev, EOp.ev, env0, gu, gv, setD, resV, List.set, List.map, List.map_nil, List.map_cons, Option.map_none, Option.map_some, Option.some.injEq, exists_eq_left', pickV, binV, convV, load1V, max2V, min2V, nilchkV, unV, boolEq, isNilV, fadV, extV, slenV, ne_eq, not_true_eq_false, if_false, if_true, ite_true, ite_false, Bool.false_eq_true, Bool.true_eq_false, beq_true, beq_false, beq_self_eq_true, Bool.not_true, Bool.not_false, reduceCtorEq, List.getElem?_toArray, List.getElem?_cons_zero, List.getElem?_cons_succ, half_ok (i := A.length + [x].length + p) (j := A.length + [x].length + q) (by simp; omega), if_neg e10, mid_ok (n := A.length + [x].length + p + (A.length + [x].length + q)) (m := A.length + [x].length + (p + q) / 2) (by simp; omega) (by omega)]
      have hmq : (p + q) / 2 < q := by omega
      have hpm : p ≤ (p + q) / 2 := by omega
      generalize (p + q) / 2 = c at hmq hpm ⊢
      have hv := VecT.ext hs hx
      obtain ⟨j1, a1⟩ := VecT.at (show VecT H' blk s ((A ++ [x]) ++ R ++ B) by simpa using hv) (i := A.length + [x].length + c) (by simp; omega)
      have g1 : ((A ++ [x]) ++ R ++ B)[A.length + [x].length + c]'(by simp; omega) = R[c] := by
        rw [List.getElem_append_left (by simp; omega), List.getElem_append_right (by simp)]
        congr 1
        simp
      rw [g1] at a1
      obtain ⟨j2, a2⟩ := VecT.at (show VecT H' blk s (A ++ x :: (R ++ B)) by simpa using hv) (i := A.length) (by simp)
      rw [get_mid rfl] at a2
      refine s_test1 ?_
      simp only [o_cont, o_callT, callV_fn, o_pure, o_eff, o_callF, o_callN, o_guard, gk_tt, gk_ff, gk_tf, gk_ft, gk_u, t_op, t_alt, t_nil, o_nil, POp.ev, Opd.ev, EOp.ev, env0, gu, gv, setD, resV, List.set, List.map, List.map_nil, List.map_cons, Option.map_none, Option.map_some, Option.some.injEq, exists_eq_left', pickV, binV, convV, load1V, max2V, min2V, nilchkV, unV, boolEq, isNilV, fadV, extV, slenV, ne_eq, not_true_eq_false, if_false, if_true, ite_true, ite_false, Bool.false_eq_true, Bool.true_eq_false, beq_true, beq_false, beq_self_eq_true, Bool.not_true, Bool.not_false, reduceCtorEq, List.getElem?_toArray, List.getElem?_cons_zero, List.getElem?_cons_succ, j1, a1.all, j2, a2.all]
      refine (compareTerms_ok _ _ _ _).mono ?_
      rintro _ H3 ⟨rfl, hx3⟩
      simp only [o_cont, o_callT, callV_fn, o_pure, o_eff, o_callF, o_callN, o_guard, gk_tt, gk_ff, gk_tf, gk_ft, gk_u, t_op, t_alt, t_nil, o_nil, POp.ev, Opd.ev, EOp.ev, env0, gu, gv, setD, resV, List.set, List.map, List.map_nil, List.map_cons, Option.map_none, Option.map_some, Option.some.injEq, exists_eq_left', pickV, binV, convV, load1V, max2V, min2V, nilchkV, unV, boolEq, isNilV, fadV, extV, slenV, ne_eq, not_true_eq_false, if_false, if_true, ite_true, ite_false, Bool.false_eq_true, Bool.true_eq_false, beq_true, beq_false, beq_self_eq_true, Bool.not_true, Bool.not_false, reduceCtorEq, List.getElem?_toArray, List.getElem?_cons_zero, List.getElem?_cons_succ, cmpT_eq]
      refine Test.split (fun hg => ?_) (fun hg => ?_)
      · have hg' : ordT R[c] x < 0 := by simpa using hg
        refine s_reg1 ?_
        simp only [o_cont, o_callT, callV_fn, o_pure, o_eff, o_callF, o_callN, o_guard, gk_tt, gk_ff, gk_tf, gk_ft, gk_u, t_op, t_alt, t_nil, o_nil, POp.ev, Opd.ev, EOp.ev, env0, gu, gv, setD, resV, List.set, List.map, List.map_nil, List.map_cons, Option.map_none, Option.map_some, Option.some.injEq, exists_eq_left', pickV, binV, convV, load1V, max2V, min2V, nilchkV, unV, boolEq, isNilV, fadV, extV, slenV, ne_eq, not_true_eq_false, if_false, if_true, ite_true, ite_false, Bool.false_eq_true, Bool.true_eq_false, beq_true, beq_false, beq_self_eq_true, Bool.not_true, Bool.not_false, reduceCtorEq, List.getElem?_toArray, List.getElem?_cons_zero, List.getElem?_cons_succ, add1 (i := A.length + [x].length + c) (by simp; omega)]
        simp +decide only [p_seq_normal, p_seq_ret, p_seq_exit, p_block_normal, p_block_ret, p_block_exit, p_fin_ret, p_fin_normal, reduceIte, Nat.reduceEqDiff, resV, resOne, resL, gv, Option.some.injEq, exists_eq_left', Option.bind_some, Option.map_some, List.getD_cons_zero, List.getD_cons_succ]
        have hk1 : q - (c + 1) < k := hk ▸ Nat.sub_lt_sub_left hlt' (Nat.lt_succ_of_le hpm)
        have hc1 : c + 1 - 1 < R.length := Nat.lt_of_lt_of_le hmq hqR
        exact Round.mk (q - (c + 1)) hk1 ⟨c + 1, q, _, hmq, hqR, rfl, .inr ⟨hc1, by simpa using hg'⟩, hq, hx.trans hx3, rfl⟩
      · have hg' : ¬ ordT R[c] x < 0 := by simpa using hg
        refine s_reg1 ?_
        simp only [o_cont, o_callT, callV_fn, o_pure, o_eff, o_callF, o_callN, o_guard, gk_tt, gk_ff, gk_tf, gk_ft, gk_u, t_op, t_alt, t_nil, o_nil, POp.ev, Opd.ev, EOp.ev, env0, gu, gv, setD, resV, List.set, List.map, List.map_nil, List.map_cons, Option.map_none, Option.map_some, Option.some.injEq, exists_eq_left', pickV, binV, convV, load1V, max2V, min2V, nilchkV, unV, boolEq, isNilV, fadV, extV, slenV, ne_eq, not_true_eq_false, if_false, if_true, ite_true, ite_false, Bool.false_eq_true, Bool.true_eq_false, beq_true, beq_false, beq_self_eq_true, Bool.not_true, Bool.not_false, reduceCtorEq, List.getElem?_toArray, List.getElem?_cons_zero, List.getElem?_cons_succ]
        simp +decide only [p_seq_normal, p_seq_ret, p_seq_exit, p_block_normal, p_block_ret, p_block_exit, p_fin_ret, p_fin_normal, reduceIte, Nat.reduceEqDiff, resV, resOne, resL, gv, Option.some.injEq, exists_eq_left', Option.bind_some, Option.map_some, List.getD_cons_zero, List.getD_cons_succ]
        have hk1 : c - p < k := hk ▸ Nat.sub_lt_sub_right hpm hmq
        have hc1 : c < R.length := Nat.lt_of_lt_of_le hmq hqR
        exact Round.mk (c - p) hk1 ⟨p, c, _, hpm, Nat.le_of_lt hc1, rfl, hp, .inr ⟨hc1, hg'⟩, hx.trans hx3, rfl⟩
    · have hpq' : p = q := by simp at hlt; omega
      subst hpq'
      refine s_exit1 ?_
      simp +decide only [p_seq_normal, p_seq_ret, p_seq_exit, p_block_normal, p_block_ret, p_block_exit, p_fin_ret, p_fin_normal, reduceIte, Nat.reduceEqDiff, resV, resOne, resL, gv, Option.some.injEq, exists_eq_left', Option.bind_some, Option.map_some, List.getD_cons_zero, List.getD_cons_succ]
      rw [merge_one hR hqR hp hq]
      have hRe : R = R.take p ++ R.drop p := (List.take_append_drop _ _).symm
      have hRl : (R.take p).length = p := by simp; omega
      have hv := VecT.ext hs hx
      have hc := Chg.of_ext (b := blk) hx
      have hbA : A.length + [x].length + R.length ≤ 100000 := hn
      generalize hR1e : R.take p = R1 at hRe hRl ⊢
      generalize hR2e : R.drop p = R2 at hRe ⊢
      refine s_assoc (s_reg ?_)
      simp only [o_cont, o_callT, callV_fn, o_pure, o_eff, o_callF, o_callN, o_guard, gk_tt, gk_ff, gk_tf, gk_ft, gk_u, t_op, t_alt, t_nil, o_nil, POp.ev, Opd.ev, EOp.ev, env0, gu, gv, setD, resV, List.set, List.map, List.map_nil, List.map_cons, Option.map_none, Option.map_some, Option.some.injEq, exists_eq_left', pickV, binV, convV, load1V, max2V, min2V, nilchkV, unV, boolEq, isNilV, fadV, extV, slenV, ne_eq, not_true_eq_false, if_false, if_true, ite_true, ite_false, Bool.false_eq_true, Bool.true_eq_false, beq_true, beq_false, beq_self_eq_true, Bool.not_true, Bool.not_false, reduceCtorEq, List.getElem?_toArray, List.getElem?_cons_zero, List.getElem?_cons_succ]
      refine s_block ?_
      refine s_loop1 (fun k e' H'' => ∃ (Ra Rb : List Tm), R1 = Ra ++ Rb ∧ Rb.length = k ∧ VecT H'' blk s (A ++ Ra ++ x :: (Rb ++ (R2 ++ B))) ∧ Chg blk H H'' ∧
        e' = [s, .int .i64 A.length, .int .i64 ((A.length + [x].length : Nat) : Int), .int .i64 ((A.length + [x].length + R.length : Nat) : Int), cmpF, .int .i64 ((A.length + [x].length + p : Nat) : Int), .int .i64 ((A.length + [x].length + p : Nat) : Int), x7, .int .i64 ((A.length + Ra.length : Nat) : Int), undef, undef, undef, undef, undef, undef, undef, undef, undef, undef, undef]) R1.length ⟨[], R1, rfl, rfl, by rw [hRe] at hv; simpa using hv, hc, rfl⟩ ?_
      rintro k e' H'' ⟨Ra, Rb, rfl, hk2, hv2, hc2, rfl⟩
      have hRab : Ra.length + Rb.length = p := by simpa using hRl
      have hw : IntKind.i64.wrap (((A.length + [x].length + p : Nat) : Int) - 1) = ((A.length + p : Nat) : Int) := by rw [sub1N (by simp <;> omega) (by simp <;> omega)]; simp <;> omega
      refine s_test ?_
      simp only [o_cont, o_callT, callV_fn, o_pure, o_eff, o_callF, o_callN, o_guard, gk_tt, gk_ff, gk_tf, gk_ft, gk_u, t_op, t_alt, t_nil, o_nil, POp.ev, Opd.ev, EOp.ev, env0, gu, gv, setD, resV, List.set, List.map, List.map_nil, List.map_cons, Option.map_none, Option.map_some, Option.some.injEq, exists_eq_left', pickV, binV, convV, load1V, max2V, min2V, nilchkV, unV, boolEq, isNilV, fadV, extV, slenV, ne_eq, not_true_eq_false, if_false, if_true, ite_true, ite_false, Bool.false_eq_true, Bool.true_eq_false, beq_true, beq_false, beq_self_eq_true, Bool.not_true, Bool.not_false, reduceCtorEq, List.getElem?_toArray, List.getElem?_cons_zero, List.getElem?_cons_succ, hw]
      refine Test.split (fun hlt2 => ?_) (fun hlt2 => ?_)
      · have hlt3 : Ra.length < p := by simp at hlt2; omega
        obtain ⟨y, Rc, rfl⟩ : ∃ y Rc, Rb = y :: Rc := by
          cases Rb with
          | nil => simp at hRab; omega
          | cons y Rc => exact ⟨y, Rc, rfl⟩
        simp only [List.length_cons] at hk2 hRab
        obtain ⟨⟨j1, a1⟩, ⟨j2, a2⟩, H1, H2, t1, t2, hv3, hc3, hn3⟩ := VecT.swap2 (lim := lim) (A := A ++ Ra) (B := []) (by simpa using hv2) hl
        have i1 : (A ++ Ra).length = A.length + Ra.length := by simp
        rw [i1] at j1 a1 t1 j2 a2 t2
        simp only [List.length_nil, Nat.add_zero] at j2 a2 t2
        refine s_skip1 ?_
        simp +decide only [p_seq_normal, p_seq_ret, p_seq_exit, p_block_normal, p_block_ret, p_block_exit, p_fin_ret, p_fin_normal, reduceIte, Nat.reduceEqDiff, resV, resOne, resL, gv, Option.some.injEq, exists_eq_left', Option.bind_some, Option.map_some, List.getD_cons_zero, List.getD_cons_succ]
        refine s_block ?_
        refine s_reg1 ?_
        simp only [o_cont, o_callT, callV_fn, o_pure, o_eff, o_callF, o_callN, o_guard, gk_tt, gk_ff, gk_tf, gk_ft, gk_u, t_op, t_alt, t_nil, o_nil, POp.ev, Opd.ev, EOp.ev, env0, gu, gv, setD, resV, List.set, List.map, List.map_nil, List.map_cons, Option.map_none, Option.map_some, Option.some.injEq, exists_eq_left', pickV, binV, convV, load1V, max2V, min2V, nilchkV, unV, boolEq, isNilV, fadV, extV, slenV, ne_eq, not_true_eq_false, if_false, if_true, ite_true, ite_false, Bool.false_eq_true, Bool.true_eq_false, beq_true, beq_false, beq_self_eq_true, Bool.not_true, Bool.not_false, reduceCtorEq, List.getElem?_toArray, List.getElem?_cons_zero, List.getElem?_cons_succ, add1 (i := A.length + Ra.length) (by omega), j1, a1.all, j2, a2.all, t1, t2]
        simp +decide only [p_seq_normal, p_seq_ret, p_seq_exit, p_block_normal, p_block_ret, p_block_exit, p_fin_ret, p_fin_normal, reduceIte, Nat.reduceEqDiff, resV, resOne, resL, gv, Option.some.injEq, exists_eq_left', Option.bind_some, Option.map_some, List.getD_cons_zero, List.getD_cons_succ]
        refine s_reg1 ?_
        simp only [o_cont, o_callT, callV_fn, o_pure, o_eff, o_callF, o_callN, o_guard, gk_tt, gk_ff, gk_tf, gk_ft, gk_u, t_op, t_alt, t_nil, o_nil, POp.ev, Opd.ev, EOp.ev, env0, gu, gv, setD, resV, List.set, List.map, List.map_nil, List.map_cons, Option.map_none, Option.map_some, Option.some.injEq, exists_eq_left', pickV, binV, convV, load1V, max2V, min2V, nilchkV, unV, boolEq, isNilV, fadV, extV, slenV, ne_eq, not_true_eq_false, if_false, if_true, ite_true, ite_false, Bool.false_eq_true, Bool.true_eq_false, beq_true, beq_false, beq_self_eq_true, Bool.not_true, Bool.not_false, reduceCtorEq, List.getElem?_toArray, List.getElem?_cons_zero, List.getElem?_cons_succ, add1 (i := A.length + Ra.length) (by omega)]
        simp +decide only [p_seq_normal, p_seq_ret, p_seq_exit, p_block_normal, p_block_ret, p_block_exit, p_fin_ret, p_fin_normal, reduceIte, Nat.reduceEqDiff, resV, resOne, resL, gv, Option.some.injEq, exists_eq_left', Option.bind_some, Option.map_some, List.getD_cons_zero, List.getD_cons_succ]
        refine Round.mk (k - 1) (by omega) ⟨Ra ++ [y], Rc, by simp, by omega, by simpa using hv3, hc2.trans hc3, by simp [Nat.add_assoc]⟩
      · have hRb : Rb = [] := List.length_eq_zero_iff.1 (by simp at hlt2; omega)
        subst hRb
        refine s_exit1 ?_
        simp +decide only [p_seq_normal, p_seq_ret, p_seq_exit, p_block_normal, p_block_ret, p_block_exit, p_fin_ret, p_fin_normal, reduceIte, Nat.reduceEqDiff, resV, resOne, resL, gv, Option.some.injEq, exists_eq_left', Option.bind_some, Option.map_some, List.getD_cons_zero, List.getD_cons_succ]
        refine s_ret1 ?_
        simp +decide only [p_seq_normal, p_seq_ret, p_seq_exit, p_block_normal, p_block_ret, p_block_exit, p_fin_ret, p_fin_normal, reduceIte, Nat.reduceEqDiff, resV, resOne, resL, gv, Option.some.injEq, exists_eq_left', Option.bind_some, Option.map_some, List.getD_cons_zero, List.getD_cons_succ]
        exact ⟨by simpa using hv2, hc2⟩
  have dL1 : ((L.length : Int) == 1) = false := by simp; omega
  rw [dL1]
  refine Test.false_ (s_skip1 ?_)
  simp +decide only [p_seq_normal, p_seq_ret, p_seq_exit, p_block_normal, p_block_ret, p_block_exit, p_fin_ret, p_fin_normal, reduceIte, Nat.reduceEqDiff, resV, resOne, resL, gv, Option.some.injEq, exists_eq_left', Option.bind_some, Option.map_some, List.getD_cons_zero, List.getD_cons_succ]
  refine s_test ?_
  simp only [o_cont, o_callT, callV_fn, o_pure, o_eff, o_callF, o_callN, o_guard, gk_tt, gk_ff, gk_tf, gk_ft, gk_u, t_op, t_alt, t_nil, o_nil, POp.ev, Opd.ev, EOp.ev, env0, gu, gv, setD, resV, List.set, List.map, List.map_nil, List.map_cons, Option.map_none, Option.map_some, Option.some.injEq, exists_eq_left', pickV, binV, convV, load1V, max2V, min2V, nilchkV, unV, boolEq, isNilV, fadV, extV, slenV, ne_eq, not_true_eq_false, if_false, if_true, ite_true, ite_false, Bool.false_eq_true, Bool.true_eq_false, beq_true, beq_false, beq_self_eq_true, Bool.not_true, Bool.not_false, reduceCtorEq, List.getElem?_toArray, List.getElem?_cons_zero, List.getElem?_cons_succ, w1]
  by_cases hR1 : R.length = 1
  · obtain ⟨y, rfl⟩ : ∃ y, R = [y] := List.length_eq_one_iff.1 hR1
    refine Test.true_ ?_
    refine s_reg ?_
    simp only [o_cont, o_callT, callV_fn, o_pure, o_eff, o_callF, o_callN, o_guard, gk_tt, gk_ff, gk_tf, gk_ft, gk_u, t_op, t_alt, t_nil, o_nil, POp.ev, Opd.ev, EOp.ev, env0, gu, gv, setD, resV, List.set, List.map, List.map_nil, List.map_cons, Option.map_none, Option.map_some, Option.some.injEq, exists_eq_left', pickV, binV, convV, load1V, max2V, min2V, nilchkV, unV, boolEq, isNilV, fadV, extV, slenV, ne_eq, not_true_eq_false, if_false, if_true, ite_true, ite_false, Bool.false_eq_true, Bool.true_eq_false, beq_true, beq_false, beq_self_eq_true, Bool.not_true, Bool.not_false, reduceCtorEq, List.getElem?_toArray, List.getElem?_cons_zero, List.getElem?_cons_succ]
    refine s_reg ?_
    simp only [o_cont, o_callT, callV_fn, o_pure, o_eff, o_callF, o_callN, o_guard, gk_tt, gk_ff, gk_tf, gk_ft, gk_u, t_op, t_alt, t_nil, o_nil, POp.ev, Opd.ev, EOp.ev, env0, gu, gv, setD, resV, List.set, List.map, List.map_nil, List.map_cons, Option.map_none, Option.map_some, Option.some.injEq, exists_eq_left', pickV, binV, convV, load1V, max2V, min2V, nilchkV, unV, boolEq, isNilV, fadV, extV, slenV, ne_eq, not_true_eq_false, if_false, if_true, ite_true, ite_false, Bool.false_eq_true, Bool.true_eq_false, beq_true, beq_false, beq_self_eq_true, Bool.not_true, Bool.not_false, reduceCtorEq, List.getElem?_toArray, List.getElem?_cons_zero, List.getElem?_cons_succ]
    refine s_block ?_
    refine s_loop1 (fun k e' H' => ∃ (p q : Nat) (x7 : Value), p ≤ q ∧ q ≤ L.length ∧ q - p = k ∧ (p = 0 ∨ ∃ h : p - 1 < L.length, ¬ ordT y L[p - 1] < 0) ∧ (q = L.length ∨ ∃ h : q < L.length, ordT y L[q] < 0) ∧ Ext H H' ∧
      e' = [s, .int .i64 A.length, .int .i64 ((A.length + L.length : Nat) : Int), .int .i64 ((A.length + L.length + [y].length : Nat) : Int), cmpF, undef, undef, undef, undef, .int .i64 ((A.length + p : Nat) : Int), .int .i64 ((A.length + q : Nat) : Int), x7, undef, undef, undef, undef, undef, undef, undef, undef]) L.length ⟨0, L.length, _, by omega, by omega, by omega, .inl rfl, .inl rfl, Ext.refl _, rfl⟩ ?_
    rintro k e' H' ⟨p, q, x7, hpq, hqR, hk, hp, hq, hx, rfl⟩
    refine s_test ?_
    simp only [o_cont, o_callT, callV_fn, o_pure, o_eff, o_callF, o_callN, o_guard, gk_tt, gk_ff, gk_tf, gk_ft, gk_u, t_op, t_alt, t_nil, o_nil, POp.ev, Opd.ev, EOp.ev, env0, gu, gv, setD, resV, List.set, List.map, List.map_nil, List.map_cons, Option.map_none, Option.map_some, Option.some.injEq, exists_eq_left', pickV, binV, convV, load1V, max2V, min2V, nilchkV, unV, boolEq, isNilV, fadV, extV, slenV, ne_eq, not_true_eq_false, if_false, if_true, ite_true, ite_false, Bool.false_eq_true, Bool.true_eq_false, beq_true, beq_false, beq_self_eq_true, Bool.not_true, Bool.not_false, reduceCtorEq, List.getElem?_toArray, List.getElem?_cons_zero, List.getElem?_cons_succ]
    refine Test.split (fun hlt => ?_) (fun hlt => ?_)
    · have hlt' : p < q := by simp at hlt; omega
      refine s_skip1 ?_
      simp +decide only [p_seq_normal, p_seq_ret, p_seq_exit, p_block_normal, p_block_ret, p_block_exit, p_fin_ret, p_fin_normal, reduceIte, Nat.reduceEqDiff, resV, resOne, resL, gv, Option.some.injEq, exists_eq_left', Option.bind_some, Option.map_some, List.getD_cons_zero, List.getD_cons_succ]
      refine s_block1 ?_
      refine s_reg ?_
      simp only [o_cont, o_callT, callV_fn, o_pure, o_eff, o_callF, o_callN, o_guard, gk_tt, gk_ff, gk_tf, gk_ft, gk_u, t_op, t_alt, t_nil, o_nil, POp.ev, Opd.ev, EOp.ev, env0, gu, gv, setD, resV, List.set, List.map, List.map_nil, List.map_cons, Option.map_none, Option.map_some, Option.some.injEq, exists_eq_left', pickV, binV, convV, load1V, max2V, min2V, nilchkV, unV, boolEq, isNilV, fadV, extV, slenV, ne_eq, not_true_eq_false, if_false, if_true, ite_true, ite_false, Bool.false_eq_true, Bool.true_eq_false, beq_true, beq_false, beq_self_eq_true, Bool.not_true, Bool.not_false, reduceCtorEq, List.getElem?_toArray, List.getElem?_cons_zero, List.getElem?_cons_succ, half_ok (i := A.length + p) (j := A.length + q) (by omega), if_neg e10, mid_ok (n := A.length + p + (A.length + q)) (m := A.length + (p + q) / 2) (by omega) (by omega)]
      have hmq : (p + q) / 2 < q := by omega
      have hpm : p ≤ (p + q) / 2 := by omega
      generalize (p + q) / 2 = c at hmq hpm ⊢
      have hcL : c < L.length := Nat.lt_of_lt_of_le hmq hqR
      have hv := VecT.ext hs hx
      obtain ⟨j1, a1⟩ := VecT.at (show VecT H' blk s ((A ++ L) ++ y :: B) by simpa using hv) (i := A.length + L.length) (by simp)
      rw [get_mid (by simp)] at a1
      obtain ⟨j2, a2⟩ := VecT.at (show VecT H' blk s (A ++ L ++ ([y] ++ B)) by simpa using hv) (i := A.length + c) (by simp; omega)
      have g1 : (A ++ L ++ ([y] ++ B))[A.length + c]'(by simp; omega) = L[c] := by
        rw [List.getElem_append_left (by simp; omega), List.getElem_append_right (by simp)]
        congr 1
        simp
      rw [g1] at a2
      refine s_test1 ?_
      simp only [o_cont, o_callT, callV_fn, o_pure, o_eff, o_callF, o_callN, o_guard, gk_tt, gk_ff, gk_tf, gk_ft, gk_u, t_op, t_alt, t_nil, o_nil, POp.ev, Opd.ev, EOp.ev, env0, gu, gv, setD, resV, List.set, List.map, List.map_nil, List.map_cons, Option.map_none, Option.map_some, Option.some.injEq, exists_eq_left', pickV, binV, convV, load1V, max2V, min2V, nilchkV, unV, boolEq, isNilV, fadV, extV, slenV, ne_eq, not_true_eq_false, if_false, if_true, ite_true, ite_false, Bool.false_eq_true, Bool.true_eq_false, beq_true, beq_false, beq_self_eq_true, Bool.not_true, Bool.not_false, reduceCtorEq, List.getElem?_toArray, List.getElem?_cons_zero, List.getElem?_cons_succ, j1, a1.all, j2, a2.all]
      refine (compareTerms_ok _ _ _ _).mono ?_
      rintro _ H3 ⟨rfl, hx3⟩
      simp only [o_cont, o_callT, callV_fn, o_pure, o_eff, o_callF, o_callN, o_guard, gk_tt, gk_ff, gk_tf, gk_ft, gk_u, t_op, t_alt, t_nil, o_nil, POp.ev, Opd.ev, EOp.ev, env0, gu, gv, setD, resV, List.set, List.map, List.map_nil, List.map_cons, Option.map_none, Option.map_some, Option.some.injEq, exists_eq_left', pickV, binV, convV, load1V, max2V, min2V, nilchkV, unV, boolEq, isNilV, fadV, extV, slenV, ne_eq, not_true_eq_false, if_false, if_true, ite_true, ite_false, Bool.false_eq_true, Bool.true_eq_false, beq_true, beq_false, beq_self_eq_true, Bool.not_true, Bool.not_false, reduceCtorEq, List.getElem?_toArray, List.getElem?_cons_zero, List.getElem?_cons_succ, cmpT_eq]
      refine Test.split (fun hg => ?_) (fun hg => ?_)
      · have hg' : ¬ ordT y L[c] < 0 := by simpa using hg
        refine s_reg1 ?_
        simp only [o_cont, o_callT, callV_fn, o_pure, o_eff, o_callF, o_callN, o_guard, gk_tt, gk_ff, gk_tf, gk_ft, gk_u, t_op, t_alt, t_nil, o_nil, POp.ev, Opd.ev, EOp.ev, env0, gu, gv, setD, resV, List.set, List.map, List.map_nil, List.map_cons, Option.map_none, Option.map_some, Option.some.injEq, exists_eq_left', pickV, binV, convV, load1V, max2V, min2V, nilchkV, unV, boolEq, isNilV, fadV, extV, slenV, ne_eq, not_true_eq_false, if_false, if_true, ite_true, ite_false, Bool.false_eq_true, Bool.true_eq_false, beq_true, beq_false, beq_self_eq_true, Bool.not_true, Bool.not_false, reduceCtorEq, List.getElem?_toArray, List.getElem?_cons_zero, List.getElem?_cons_succ, add1 (i := A.length + c) (by omega)]
        simp +decide only [p_seq_normal, p_seq_ret, p_seq_exit, p_block_normal, p_block_ret, p_block_exit, p_fin_ret, p_fin_normal, reduceIte, Nat.reduceEqDiff, resV, resOne, resL, gv, Option.some.injEq, exists_eq_left', Option.bind_some, Option.map_some, List.getD_cons_zero, List.getD_cons_succ]
        have hk1 : q - (c + 1) < k := hk ▸ Nat.sub_lt_sub_left hlt' (Nat.lt_succ_of_le hpm)
        have hc1 : c + 1 - 1 < L.length := hcL
        exact Round.mk (q - (c + 1)) hk1 ⟨c + 1, q, _, hmq, hqR, rfl, .inr ⟨hc1, by simpa using hg'⟩, hq, hx.trans hx3, rfl⟩
      · have hg' : ordT y L[c] < 0 := by simpa using hg
        refine s_reg1 ?_
        simp only [o_cont, o_callT, callV_fn, o_pure, o_eff, o_callF, o_callN, o_guard, gk_tt, gk_ff, gk_tf, gk_ft, gk_u, t_op, t_alt, t_nil, o_nil, POp.ev, Opd.ev, EOp.ev, env0, gu, gv, setD, resV, List.set, List.map, List.map_nil, List.map_cons, Option.map_none, Option.map_some, Option.some.injEq, exists_eq_left', pickV, binV, convV, load1V, max2V, min2V, nilchkV, unV, boolEq, isNilV, fadV, extV, slenV, ne_eq, not_true_eq_false, if_false, if_true, ite_true, ite_false, Bool.false_eq_true, Bool.true_eq_false, beq_true, beq_false, beq_self_eq_true, Bool.not_true, Bool.not_false, reduceCtorEq, List.getElem?_toArray, List.getElem?_cons_zero, List.getElem?_cons_succ]
        simp +decide only [p_seq_normal, p_seq_ret, p_seq_exit, p_block_normal, p_block_ret, p_block_exit, p_fin_ret, p_fin_normal, reduceIte, Nat.reduceEqDiff, resV, resOne, resL, gv, Option.some.injEq, exists_eq_left', Option.bind_some, Option.map_some, List.getD_cons_zero, List.getD_cons_succ]
        have hk1 : c - p < k := hk ▸ Nat.sub_lt_sub_right hpm hmq
        exact Round.mk (c - p) hk1 ⟨p, c, _, hpm, Nat.le_of_lt hcL, rfl, hp, .inr ⟨hcL, hg'⟩, hx.trans hx3, rfl⟩
    · have hpq' : p = q := by simp at hlt; omega
      subst hpq'
      refine s_exit1 ?_
      simp +decide only [p_seq_normal, p_seq_ret, p_seq_exit, p_block_normal, p_block_ret, p_block_exit, p_fin_ret, p_fin_normal, reduceIte, Nat.reduceEqDiff, resV, resOne, resL, gv, Option.some.injEq, exists_eq_left', Option.bind_some, Option.map_some, List.getD_cons_zero, List.getD_cons_succ]
      rw [merge_last hL hqR hp hq]
      have hRe : L = L.take p ++ L.drop p := (List.take_append_drop _ _).symm
      have hRl : (L.take p).length = p := by simp; omega
      have hRm : (L.take p).length + (L.drop p).length = L.length := by simp; omega
      have hv := VecT.ext hs hx
      have hc := Chg.of_ext (b := blk) hx
      generalize hR1e : L.take p = L1 at hRe hRl hRm ⊢
      generalize hR2e : L.drop p = L2 at hRe hRm ⊢
      refine s_assoc (s_reg ?_)
      simp only [o_cont, o_callT, callV_fn, o_pure, o_eff, o_callF, o_callN, o_guard, gk_tt, gk_ff, gk_tf, gk_ft, gk_u, t_op, t_alt, t_nil, o_nil, POp.ev, Opd.ev, EOp.ev, env0, gu, gv, setD, resV, List.set, List.map, List.map_nil, List.map_cons, Option.map_none, Option.map_some, Option.some.injEq, exists_eq_left', pickV, binV, convV, load1V, max2V, min2V, nilchkV, unV, boolEq, isNilV, fadV, extV, slenV, ne_eq, not_true_eq_false, if_false, if_true, ite_true, ite_false, Bool.false_eq_true, Bool.true_eq_false, beq_true, beq_false, beq_self_eq_true, Bool.not_true, Bool.not_false, reduceCtorEq, List.getElem?_toArray, List.getElem?_cons_zero, List.getElem?_cons_succ]
      refine s_block ?_
      refine s_loop1 (fun k e' H'' => ∃ (La Lb : List Tm), L2 = La ++ Lb ∧ La.length = k ∧ VecT H'' blk s (A ++ L1 ++ La ++ y :: (Lb ++ B)) ∧ Chg blk H H'' ∧
        e' = [s, .int .i64 A.length, .int .i64 ((A.length + L.length : Nat) : Int), .int .i64 ((A.length + L.length + [y].length : Nat) : Int), cmpF, undef, undef, undef, undef, .int .i64 ((A.length + p : Nat) : Int), .int .i64 ((A.length + p : Nat) : Int), x7, .int .i64 ((A.length + p + La.length : Nat) : Int), undef, undef, undef, undef, undef, undef, undef]) L2.length ⟨L2, [], by simp, rfl, by rw [hRe] at hv; simpa using hv, hc, by rw [show A.length + p + L2.length = A.length + L.length by omega]⟩ ?_
      rintro k e' H'' ⟨La, Lb, rfl, hk2, hv2, hc2, rfl⟩
      refine s_test ?_
      simp only [o_cont, o_callT, callV_fn, o_pure, o_eff, o_callF, o_callN, o_guard, gk_tt, gk_ff, gk_tf, gk_ft, gk_u, t_op, t_alt, t_nil, o_nil, POp.ev, Opd.ev, EOp.ev, env0, gu, gv, setD, resV, List.set, List.map, List.map_nil, List.map_cons, Option.map_none, Option.map_some, Option.some.injEq, exists_eq_left', pickV, binV, convV, load1V, max2V, min2V, nilchkV, unV, boolEq, isNilV, fadV, extV, slenV, ne_eq, not_true_eq_false, if_false, if_true, ite_true, ite_false, Bool.false_eq_true, Bool.true_eq_false, beq_true, beq_false, beq_self_eq_true, Bool.not_true, Bool.not_false, reduceCtorEq, List.getElem?_toArray, List.getElem?_cons_zero, List.getElem?_cons_succ]
      refine Test.split (fun hlt2 => ?_) (fun hlt2 => ?_)
      · have hlt3 : 0 < La.length := by simp at hlt2; omega
        obtain ⟨La0, x, hLae⟩ : ∃ La0 x, La = La0 ++ [x] := by
          rcases List.eq_nil_or_concat La with rfl | ⟨Q, x, hQ⟩
          · simp at hlt3
          · exact ⟨Q, x, by rw [hQ, List.concat_eq_append]⟩
        subst hLae
        have hll : (La0 ++ [x]).length = La0.length + 1 := by simp
        have hv2' : VecT H'' blk s ((A ++ L1 ++ La0) ++ x :: y :: (Lb ++ B)) := by simpa using hv2
        obtain ⟨⟨j1, a1⟩, ⟨j2, a2⟩, _⟩ := VecT.swap2 (lim := lim) (A := A ++ L1 ++ La0) (B := []) (x := x) (y := y) (C := Lb ++ B) hv2' hl
        obtain ⟨H1, H2, t1, t2, hv3, hc3, hn3⟩ := VecT.swap (lim := lim) hv2' hl
        have i1 : (A ++ L1 ++ La0).length = A.length + p + La0.length := by simp [← hRl]; omega
        rw [i1] at j1 a1 t1 t2 j2 a2
        simp only [List.length_nil, Nat.add_zero] at j2 a2
        have i2 : A.length + p + (La0 ++ [x]).length = A.length + p + La0.length + 1 := by simp; omega
        have hw : IntKind.i64.wrap (((A.length + p + (La0 ++ [x]).length : Nat) : Int) - 1) = ((A.length + p + La0.length : Nat) : Int) := by
          have : (La0 ++ [x]).length ≤ L.length := by simp at hRm hll ⊢; omega
          rw [sub1N (by omega) (by omega)]; omega
        refine s_skip1 ?_
        simp +decide only [p_seq_normal, p_seq_ret, p_seq_exit, p_block_normal, p_block_ret, p_block_exit, p_fin_ret, p_fin_normal, reduceIte, Nat.reduceEqDiff, resV, resOne, resL, gv, Option.some.injEq, exists_eq_left', Option.bind_some, Option.map_some, List.getD_cons_zero, List.getD_cons_succ]
        refine s_block ?_
        refine s_reg1 ?_
        rw [i2] at hw ⊢
        simp only [o_cont, o_callT, callV_fn, o_pure, o_eff, o_callF, o_callN, o_guard, gk_tt, gk_ff, gk_tf, gk_ft, gk_u, t_op, t_alt, t_nil, o_nil, POp.ev, Opd.ev, EOp.ev, env0, gu, gv, setD, resV, List.set, List.map, List.map_nil, List.map_cons, Option.map_none, Option.map_some, Option.some.injEq, exists_eq_left', pickV, binV, convV, load1V, max2V, min2V, nilchkV, unV, boolEq, isNilV, fadV, extV, slenV, ne_eq, not_true_eq_false, if_false, if_true, ite_true, ite_false, Bool.false_eq_true, Bool.true_eq_false, beq_true, beq_false, beq_self_eq_true, Bool.not_true, Bool.not_false, reduceCtorEq, List.getElem?_toArray, List.getElem?_cons_zero, List.getElem?_cons_succ, hw, j1, a1.all, j2, a2.all, t1, t2]
        simp +decide only [p_seq_normal, p_seq_ret, p_seq_exit, p_block_normal, p_block_ret, p_block_exit, p_fin_ret, p_fin_normal, reduceIte, Nat.reduceEqDiff, resV, resOne, resL, gv, Option.some.injEq, exists_eq_left', Option.bind_some, Option.map_some, List.getD_cons_zero, List.getD_cons_succ]
        refine s_reg1 ?_
        simp only [o_cont, o_callT, callV_fn, o_pure, o_eff, o_callF, o_callN, o_guard, gk_tt, gk_ff, gk_tf, gk_ft, gk_u, t_op, t_alt, t_nil, o_nil, POp.ev, Opd.ev, EOp.ev, env0, gu, gv, setD, resV, List.set, List.map, List.map_nil, List.map_cons, Option.map_none, Option.map_some, Option.some.injEq, exists_eq_left', pickV, binV, convV, load1V, max2V, min2V, nilchkV, unV, boolEq, isNilV, fadV, extV, slenV, ne_eq, not_true_eq_false, if_false, if_true, ite_true, ite_false, Bool.false_eq_true, Bool.true_eq_false, beq_true, beq_false, beq_self_eq_true, Bool.not_true, Bool.not_false, reduceCtorEq, List.getElem?_toArray, List.getElem?_cons_zero, List.getElem?_cons_succ, hw]
        simp +decide only [p_seq_normal, p_seq_ret, p_seq_exit, p_block_normal, p_block_ret, p_block_exit, p_fin_ret, p_fin_normal, reduceIte, Nat.reduceEqDiff, resV, resOne, resL, gv, Option.some.injEq, exists_eq_left', Option.bind_some, Option.map_some, List.getD_cons_zero, List.getD_cons_succ]
        refine Round.mk (k - 1) (by omega) ⟨La0, x :: Lb, by simp, by omega, by simpa using hv3, hc2.trans hc3, rfl⟩
      · have hRb : La = [] := List.length_eq_zero_iff.1 (by simp at hlt2; omega)
        subst hRb
        refine s_exit1 ?_
        simp +decide only [p_seq_normal, p_seq_ret, p_seq_exit, p_block_normal, p_block_ret, p_block_exit, p_fin_ret, p_fin_normal, reduceIte, Nat.reduceEqDiff, resV, resOne, resL, gv, Option.some.injEq, exists_eq_left', Option.bind_some, Option.map_some, List.getD_cons_zero, List.getD_cons_succ]
        refine s_ret1 ?_
        simp +decide only [p_seq_normal, p_seq_ret, p_seq_exit, p_block_normal, p_block_ret, p_block_exit, p_fin_ret, p_fin_normal, reduceIte, Nat.reduceEqDiff, resV, resOne, resL, gv, Option.some.injEq, exists_eq_left', Option.bind_some, Option.map_some, List.getD_cons_zero, List.getD_cons_succ]
        exact ⟨by simpa using hv2, hc2⟩
  have dR1 : ((R.length : Int) == 1) = false := by simp; omega
  rw [dR1]
  refine Test.false_ (s_skip1 ?_)
  simp +decide only [p_seq_normal, p_seq_ret, p_seq_exit, p_block_normal, p_block_ret, p_block_exit, p_fin_ret, p_fin_normal, reduceIte, Nat.reduceEqDiff, resV, resOne, resL, gv, Option.some.injEq, exists_eq_left', Option.bind_some, Option.map_some, List.getD_cons_zero, List.getD_cons_succ]
  have hh1 : (L.length + R.length) / 2 ≤ L.length + R.length := by omega
  have hh2 : L.length + R.length ≤ 2 * ((L.length + R.length) / 2) + 1 := by omega
  have hh3 : 2 * ((L.length + R.length) / 2) ≤ L.length + R.length := by omega
  have hmid : (A.length + (A.length + L.length + R.length)) / 2 = A.length + (L.length + R.length) / 2 := by omega
  refine s_reg ?_
  simp only [o_cont, o_callT, callV_fn, o_pure, o_eff, o_callF, o_callN, o_guard, gk_tt, gk_ff, gk_tf, gk_ft, gk_u, t_op, t_alt, t_nil, o_nil, POp.ev, Opd.ev, EOp.ev, env0, gu, gv, setD, resV, List.set, List.map, List.map_nil, List.map_cons, Option.map_none, Option.map_some, Option.some.injEq, exists_eq_left', pickV, binV, convV, load1V, max2V, min2V, nilchkV, unV, boolEq, isNilV, fadV, extV, slenV, ne_eq, not_true_eq_false, if_false, if_true, ite_true, ite_false, Bool.false_eq_true, Bool.true_eq_false, beq_true, beq_false, beq_self_eq_true, Bool.not_true, Bool.not_false, reduceCtorEq, List.getElem?_toArray, List.getElem?_cons_zero, List.getElem?_cons_succ, half_ok (i := A.length) (j := A.length + L.length + R.length) (by omega), if_neg e10, mid_ok (n := A.length + (A.length + L.length + R.length)) (m := A.length + (L.length + R.length) / 2) (by omega) hmid]
  have hhN : (L.length + R.length) / 2 < N + 1 := by omega
  have hhp : 0 < (L.length + R.length) / 2 := by omega
  generalize (L.length + R.length) / 2 = h at hh1 hh2 hh3 hhN hhp ⊢
  refine s_reg ?_
  simp only [o_cont, o_callT, callV_fn, o_pure, o_eff, o_callF, o_callN, o_guard, gk_tt, gk_ff, gk_tf, gk_ft, gk_u, t_op, t_alt, t_nil, o_nil, POp.ev, Opd.ev, EOp.ev, env0, gu, gv, setD, resV, List.set, List.map, List.map_nil, List.map_cons, Option.map_none, Option.map_some, Option.some.injEq, exists_eq_left', pickV, binV, convV, load1V, max2V, min2V, nilchkV, unV, boolEq, isNilV, fadV, extV, slenV, ne_eq, not_true_eq_false, if_false, if_true, ite_true, ite_false, Bool.false_eq_true, Bool.true_eq_false, beq_true, beq_false, beq_self_eq_true, Bool.not_true, Bool.not_false, reduceCtorEq, List.getElem?_toArray, List.getElem?_cons_zero, List.getElem?_cons_succ, half_ok (i := A.length + h) (j := A.length + L.length) (by omega)]
  refine s_reg ?_
  simp only [o_cont, o_callT, callV_fn, o_pure, o_eff, o_callF, o_callN, o_guard, gk_tt, gk_ff, gk_tf, gk_ft, gk_u, t_op, t_alt, t_nil, o_nil, POp.ev, Opd.ev, EOp.ev, env0, gu, gv, setD, resV, List.set, List.map, List.map_nil, List.map_cons, Option.map_none, Option.map_some, Option.some.injEq, exists_eq_left', pickV, binV, convV, load1V, max2V, min2V, nilchkV, unV, boolEq, isNilV, fadV, extV, slenV, ne_eq, not_true_eq_false, if_false, if_true, ite_true, ite_false, Bool.false_eq_true, Bool.true_eq_false, beq_true, beq_false, beq_self_eq_true, Bool.not_true, Bool.not_false, reduceCtorEq, List.getElem?_toArray, List.getElem?_cons_zero, List.getElem?_cons_succ]
  refine s_cutI (fun e' H' => H' = H ∧ ∃ lo hi : Nat, lo ≤ hi ∧ hi ≤ L.length ∧ hi ≤ h ∧ h - lo ≤ R.length ∧ (lo = 0 ∨ h - lo = R.length) ∧ (hi = L.length ∨ hi = h) ∧
    e' = [s, .int .i64 A.length, .int .i64 ((A.length + L.length : Nat) : Int), .int .i64 ((A.length + L.length + R.length : Nat) : Int), cmpF, undef, undef, undef, undef, undef, undef, undef, undef, .int .i64 ((A.length + h : Nat) : Int), .int .i64 ((A.length + h + (A.length + L.length) : Nat) : Int), .int .i64 ((A.length + lo : Nat) : Int), .int .i64 ((A.length + hi : Nat) : Int), undef, undef, undef]) ?_ ?_
  · refine s_test1 ?_
    simp only [o_cont, o_callT, callV_fn, o_pure, o_eff, o_callF, o_callN, o_guard, gk_tt, gk_ff, gk_tf, gk_ft, gk_u, t_op, t_alt, t_nil, o_nil, POp.ev, Opd.ev, EOp.ev, env0, gu, gv, setD, resV, List.set, List.map, List.map_nil, List.map_cons, Option.map_none, Option.map_some, Option.some.injEq, exists_eq_left', pickV, binV, convV, load1V, max2V, min2V, nilchkV, unV, boolEq, isNilV, fadV, extV, slenV, ne_eq, not_true_eq_false, if_false, if_true, ite_true, ite_false, Bool.false_eq_true, Bool.true_eq_false, beq_true, beq_false, beq_self_eq_true, Bool.not_true, Bool.not_false, reduceCtorEq, List.getElem?_toArray, List.getElem?_cons_zero, List.getElem?_cons_succ]
    refine Test.split (fun hg => ?_) (fun hg => ?_)
    · have hg' : h < L.length := by simp at hg; omega
      have ws : IntKind.i64.wrap (((A.length + h + (A.length + L.length) : Nat) : Int) - ((A.length + L.length + R.length : Nat) : Int)) = ((A.length + (h - R.length) : Nat) : Int) := by rw [subN (by omega) (by omega)]; omega
      refine s_reg ?_
      simp only [o_cont, o_callT, callV_fn, o_pure, o_eff, o_callF, o_callN, o_guard, gk_tt, gk_ff, gk_tf, gk_ft, gk_u, t_op, t_alt, t_nil, o_nil, POp.ev, Opd.ev, EOp.ev, env0, gu, gv, setD, resV, List.set, List.map, List.map_nil, List.map_cons, Option.map_none, Option.map_some, Option.some.injEq, exists_eq_left', pickV, binV, convV, load1V, max2V, min2V, nilchkV, unV, boolEq, isNilV, fadV, extV, slenV, ne_eq, not_true_eq_false, if_false, if_true, ite_true, ite_false, Bool.false_eq_true, Bool.true_eq_false, beq_true, beq_false, beq_self_eq_true, Bool.not_true, Bool.not_false, reduceCtorEq, List.getElem?_toArray, List.getElem?_cons_zero, List.getElem?_cons_succ, ws]
      refine s_reg1 ?_
      simp only [o_cont, o_callT, callV_fn, o_pure, o_eff, o_callF, o_callN, o_guard, gk_tt, gk_ff, gk_tf, gk_ft, gk_u, t_op, t_alt, t_nil, o_nil, POp.ev, Opd.ev, EOp.ev, env0, gu, gv, setD, resV, List.set, List.map, List.map_nil, List.map_cons, Option.map_none, Option.map_some, Option.some.injEq, exists_eq_left', pickV, binV, convV, load1V, max2V, min2V, nilchkV, unV, boolEq, isNilV, fadV, extV, slenV, ne_eq, not_true_eq_false, if_false, if_true, ite_true, ite_false, Bool.false_eq_true, Bool.true_eq_false, beq_true, beq_false, beq_self_eq_true, Bool.not_true, Bool.not_false, reduceCtorEq, List.getElem?_toArray, List.getElem?_cons_zero, List.getElem?_cons_succ]
      simp +decide only [p_seq_normal, p_seq_ret, p_seq_exit, p_block_normal, p_block_ret, p_block_exit, p_fin_ret, p_fin_normal, reduceIte, Nat.reduceEqDiff, resV, resOne, resL, gv, Option.some.injEq, exists_eq_left', Option.bind_some, Option.map_some, List.getD_cons_zero, List.getD_cons_succ]
      exact ⟨trivial, h - R.length, h, by omega, by omega, by omega, by omega, .inr (by omega), .inr rfl, rfl⟩
    · have hg' : L.length ≤ h := by simp at hg; omega
      refine s_reg ?_
      simp only [o_cont, o_callT, callV_fn, o_pure, o_eff, o_callF, o_callN, o_guard, gk_tt, gk_ff, gk_tf, gk_ft, gk_u, t_op, t_alt, t_nil, o_nil, POp.ev, Opd.ev, EOp.ev, env0, gu, gv, setD, resV, List.set, List.map, List.map_nil, List.map_cons, Option.map_none, Option.map_some, Option.some.injEq, exists_eq_left', pickV, binV, convV, load1V, max2V, min2V, nilchkV, unV, boolEq, isNilV, fadV, extV, slenV, ne_eq, not_true_eq_false, if_false, if_true, ite_true, ite_false, Bool.false_eq_true, Bool.true_eq_false, beq_true, beq_false, beq_self_eq_true, Bool.not_true, Bool.not_false, reduceCtorEq, List.getElem?_toArray, List.getElem?_cons_zero, List.getElem?_cons_succ]
      refine s_reg1 ?_
      simp only [o_cont, o_callT, callV_fn, o_pure, o_eff, o_callF, o_callN, o_guard, gk_tt, gk_ff, gk_tf, gk_ft, gk_u, t_op, t_alt, t_nil, o_nil, POp.ev, Opd.ev, EOp.ev, env0, gu, gv, setD, resV, List.set, List.map, List.map_nil, List.map_cons, Option.map_none, Option.map_some, Option.some.injEq, exists_eq_left', pickV, binV, convV, load1V, max2V, min2V, nilchkV, unV, boolEq, isNilV, fadV, extV, slenV, ne_eq, not_true_eq_false, if_false, if_true, ite_true, ite_false, Bool.false_eq_true, Bool.true_eq_false, beq_true, beq_false, beq_self_eq_true, Bool.not_true, Bool.not_false, reduceCtorEq, List.getElem?_toArray, List.getElem?_cons_zero, List.getElem?_cons_succ]
      simp +decide only [p_seq_normal, p_seq_ret, p_seq_exit, p_block_normal, p_block_ret, p_block_exit, p_fin_ret, p_fin_normal, reduceIte, Nat.reduceEqDiff, resV, resOne, resL, gv, Option.some.injEq, exists_eq_left', Option.bind_some, Option.map_some, List.getD_cons_zero, List.getD_cons_succ]
      exact ⟨trivial, 0, L.length, by omega, by omega, by omega, by omega, .inl rfl, .inl rfl, rfl⟩
  rintro e' H' ⟨rfl, lo, hi, hlohi, hiL, hih, hloR, hlo, hhi, rfl⟩
  have wp : IntKind.i64.wrap (((A.length + h + (A.length + L.length) : Nat) : Int) - 1) = ((A.length + h + (A.length + L.length) - 1 : Nat) : Int) := sub1N (by omega) (by omega)
  refine s_reg ?_
  simp only [o_cont, o_callT, callV_fn, o_pure, o_eff, o_callF, o_callN, o_guard, gk_tt, gk_ff, gk_tf, gk_ft, gk_u, t_op, t_alt, t_nil, o_nil, POp.ev, Opd.ev, EOp.ev, env0, gu, gv, setD, resV, List.set, List.map, List.map_nil, List.map_cons, Option.map_none, Option.map_some, Option.some.injEq, exists_eq_left', pickV, binV, convV, load1V, max2V, min2V, nilchkV, unV, boolEq, isNilV, fadV, extV, slenV, ne_eq, not_true_eq_false, if_false, if_true, ite_true, ite_false, Bool.false_eq_true, Bool.true_eq_false, beq_true, beq_false, beq_self_eq_true, Bool.not_true, Bool.not_false, reduceCtorEq, List.getElem?_toArray, List.getElem?_cons_zero, List.getElem?_cons_succ, wp]
  refine s_block ?_
  refine s_loop1 (fun k e' H1 => ∃ (p q : Nat) (x18 : Value), lo ≤ p ∧ p ≤ q ∧ q ≤ hi ∧ q - p = k ∧ (p = lo ∨ ∃ (h1 : p - 1 < L.length) (h2 : h - p < R.length), ¬ ordT R[h - p] L[p - 1] < 0) ∧ (q = hi ∨ ∃ (h1 : q < L.length) (h2 : h - 1 - q < R.length), ordT R[h - 1 - q] L[q] < 0) ∧ Ext H' H1 ∧
    e' = [s, .int .i64 A.length, .int .i64 ((A.length + L.length : Nat) : Int), .int .i64 ((A.length + L.length + R.length : Nat) : Int), cmpF, undef, undef, undef, undef, undef, undef, undef, undef, .int .i64 ((A.length + h : Nat) : Int), .int .i64 ((A.length + h + (A.length + L.length) : Nat) : Int), .int .i64 ((A.length + p : Nat) : Int), .int .i64 ((A.length + q : Nat) : Int), .int .i64 ((A.length + h + (A.length + L.length) - 1 : Nat) : Int), x18, undef]) (hi - lo) ⟨lo, hi, _, by omega, by omega, by omega, rfl, .inl rfl, .inl rfl, Ext.refl _, rfl⟩ ?_
  rintro k e' H1 ⟨p, q, x18, hlp, hpq, hqh, hk, hp, hq, hx, rfl⟩
  refine s_test ?_
  simp only [o_cont, o_callT, callV_fn, o_pure, o_eff, o_callF, o_callN, o_guard, gk_tt, gk_ff, gk_tf, gk_ft, gk_u, t_op, t_alt, t_nil, o_nil, POp.ev, Opd.ev, EOp.ev, env0, gu, gv, setD, resV, List.set, List.map, List.map_nil, List.map_cons, Option.map_none, Option.map_some, Option.some.injEq, exists_eq_left', pickV, binV, convV, load1V, max2V, min2V, nilchkV, unV, boolEq, isNilV, fadV, extV, slenV, ne_eq, not_true_eq_false, if_false, if_true, ite_true, ite_false, Bool.false_eq_true, Bool.true_eq_false, beq_true, beq_false, beq_self_eq_true, Bool.not_true, Bool.not_false, reduceCtorEq, List.getElem?_toArray, List.getElem?_cons_zero, List.getElem?_cons_succ]
  refine Test.split (fun hlt => ?_) (fun hlt => ?_)
  · have hlt' : p < q := by simp at hlt; omega
    refine s_skip1 ?_
    simp +decide only [p_seq_normal, p_seq_ret, p_seq_exit, p_block_normal, p_block_ret, p_block_exit, p_fin_ret, p_fin_normal, reduceIte, Nat.reduceEqDiff, resV, resOne, resL, gv, Option.some.injEq, exists_eq_left', Option.bind_some, Option.map_some, List.getD_cons_zero, List.getD_cons_succ]
    refine s_block1 ?_
    refine s_reg ?_
    simp only [o_cont, o_callT, callV_fn, o_pure, o_eff, o_callF, o_callN, o_guard, gk_tt, gk_ff, gk_tf, gk_ft, gk_u, t_op, t_alt, t_nil, o_nil, POp.ev, Opd.ev, EOp.ev, env0, gu, gv, setD, resV, List.set, List.map, List.map_nil, List.map_cons, Option.map_none, Option.map_some, Option.some.injEq, exists_eq_left', pickV, binV, convV, load1V, max2V, min2V, nilchkV, unV, boolEq, isNilV, fadV, extV, slenV, ne_eq, not_true_eq_false, if_false, if_true, ite_true, ite_false, Bool.false_eq_true, Bool.true_eq_false, beq_true, beq_false, beq_self_eq_true, Bool.not_true, Bool.not_false, reduceCtorEq, List.getElem?_toArray, List.getElem?_cons_zero, List.getElem?_cons_succ, half_ok (i := A.length + p) (j := A.length + q) (by omega), if_neg e10, mid_ok (n := A.length + p + (A.length + q)) (m := A.length + (p + q) / 2) (by omega) (by omega)]
    have hmq : (p + q) / 2 < q := by omega
    have hpm : p ≤ (p + q) / 2 := by omega
    generalize (p + q) / 2 = c at hmq hpm ⊢
    have hcL : c < L.length := by clear hp hq; omega
    have hcR : h - 1 - c < R.length := by clear hp hq; omega
    have hcR2 : h - (c + 1) < R.length := by clear hp hq; omega
    have hwc : IntKind.i64.wrap (((A.length + h + (A.length + L.length) - 1 : Nat) : Int) - ((A.length + c : Nat) : Int)) = ((A.length + L.length + (h - 1 - c) : Nat) : Int) := by clear hp hq; rw [subN (by omega) (by omega)]; omega
    have hv := VecT.ext hs hx
    obtain ⟨j1, a1⟩ := VecT.at (show VecT H1 blk s ((A ++ L) ++ R ++ B) by simpa using hv) (i := A.length + L.length + (h - 1 - c)) (by clear hp hq; simp; omega)
    have g1 : ((A ++ L) ++ R ++ B)[A.length + L.length + (h - 1 - c)]'(by clear hp hq; simp; omega) = R[h - 1 - c] := by
      rw [List.getElem_append_left (by clear hp hq; simp; omega), List.getElem_append_right (by simp)]
      congr 1
      simp
    rw [g1] at a1
    obtain ⟨j2, a2⟩ := VecT.at (show VecT H1 blk s (A ++ L ++ (R ++ B)) by simpa using hv) (i := A.length + c) (by clear hp hq; simp; omega)
    have g2 : (A ++ L ++ (R ++ B))[A.length + c]'(by clear hp hq; simp; omega) = L[c] := by
      rw [List.getElem_append_left (by clear hp hq; simp; omega), List.getElem_append_right (by simp)]
      congr 1
      simp
    rw [g2] at a2
    refine s_test1 ?_
    simp only [o_cont, o_callT, callV_fn, o_pure, o_eff, o_callF, o_callN, o_guard, gk_tt, gk_ff, gk_tf, gk_ft, gk_u, t_op, t_alt, t_nil, o_nil, POp.ev, Opd.ev, EOp.ev, env0, gu, gv, setD, resV, List.set, List.map, List.map_nil, List.map_cons, Option.map_none, Option.map_some, Option.some.injEq, exists_eq_left', pickV, binV, convV, load1V, max2V, min2V, nilchkV, unV, boolEq, isNilV, fadV, extV, slenV, ne_eq, not_true_eq_false, if_false, if_true, ite_true, ite_false, Bool.false_eq_true, Bool.true_eq_false, beq_true, beq_false, beq_self_eq_true, Bool.not_true, Bool.not_false, reduceCtorEq, List.getElem?_toArray, List.getElem?_cons_zero, List.getElem?_cons_succ, hwc, j1, a1.all, j2, a2.all]
    refine (compareTerms_ok _ _ _ _).mono ?_
    rintro _ H3 ⟨rfl, hx3⟩
    simp only [o_cont, o_callT, callV_fn, o_pure, o_eff, o_callF, o_callN, o_guard, gk_tt, gk_ff, gk_tf, gk_ft, gk_u, t_op, t_alt, t_nil, o_nil, POp.ev, Opd.ev, EOp.ev, env0, gu, gv, setD, resV, List.set, List.map, List.map_nil, List.map_cons, Option.map_none, Option.map_some, Option.some.injEq, exists_eq_left', pickV, binV, convV, load1V, max2V, min2V, nilchkV, unV, boolEq, isNilV, fadV, extV, slenV, ne_eq, not_true_eq_false, if_false, if_true, ite_true, ite_false, Bool.false_eq_true, Bool.true_eq_false, beq_true, beq_false, beq_self_eq_true, Bool.not_true, Bool.not_false, reduceCtorEq, List.getElem?_toArray, List.getElem?_cons_zero, List.getElem?_cons_succ, cmpT_eq]
    refine Test.split (fun hg => ?_) (fun hg => ?_)
    · have hg' : ¬ ordT R[h - 1 - c] L[c] < 0 := by simpa using hg
      refine s_reg1 ?_
      simp only [o_cont, o_callT, callV_fn, o_pure, o_eff, o_callF, o_callN, o_guard, gk_tt, gk_ff, gk_tf, gk_ft, gk_u, t_op, t_alt, t_nil, o_nil, POp.ev, Opd.ev, EOp.ev, env0, gu, gv, setD, resV, List.set, List.map, List.map_nil, List.map_cons, Option.map_none, Option.map_some, Option.some.injEq, exists_eq_left', pickV, binV, convV, load1V, max2V, min2V, nilchkV, unV, boolEq, isNilV, fadV, extV, slenV, ne_eq, not_true_eq_false, if_false, if_true, ite_true, ite_false, Bool.false_eq_true, Bool.true_eq_false, beq_true, beq_false, beq_self_eq_true, Bool.not_true, Bool.not_false, reduceCtorEq, List.getElem?_toArray, List.getElem?_cons_zero, List.getElem?_cons_succ, add1 (i := A.length + c) (by clear hp hq hg'; omega)]
      simp +decide only [p_seq_normal, p_seq_ret, p_seq_exit, p_block_normal, p_block_ret, p_block_exit, p_fin_ret, p_fin_normal, reduceIte, Nat.reduceEqDiff, resV, resOne, resL, gv, Option.some.injEq, exists_eq_left', Option.bind_some, Option.map_some, List.getD_cons_zero, List.getD_cons_succ]
      have hk1 : q - (c + 1) < k := hk ▸ Nat.sub_lt_sub_left hlt' (Nat.lt_succ_of_le hpm)
      have hc1 : c + 1 - 1 < L.length := hcL
      have he : h - (c + 1) = h - 1 - c := by clear hp hq hg'; omega
      exact Round.mk (q - (c + 1)) hk1 ⟨c + 1, q, _, Nat.le_succ_of_le (Nat.le_trans hlp hpm), hmq, hqh, rfl, .inr ⟨hc1, hcR2, by simpa [he] using hg'⟩, hq, hx.trans hx3, rfl⟩
    · have hg' : ordT R[h - 1 - c] L[c] < 0 := by simpa using hg
      refine s_reg1 ?_
      simp only [o_cont, o_callT, callV_fn, o_pure, o_eff, o_callF, o_callN, o_guard, gk_tt, gk_ff, gk_tf, gk_ft, gk_u, t_op, t_alt, t_nil, o_nil, POp.ev, Opd.ev, EOp.ev, env0, gu, gv, setD, resV, List.set, List.map, List.map_nil, List.map_cons, Option.map_none, Option.map_some, Option.some.injEq, exists_eq_left', pickV, binV, convV, load1V, max2V, min2V, nilchkV, unV, boolEq, isNilV, fadV, extV, slenV, ne_eq, not_true_eq_false, if_false, if_true, ite_true, ite_false, Bool.false_eq_true, Bool.true_eq_false, beq_true, beq_false, beq_self_eq_true, Bool.not_true, Bool.not_false, reduceCtorEq, List.getElem?_toArray, List.getElem?_cons_zero, List.getElem?_cons_succ]
      simp +decide only [p_seq_normal, p_seq_ret, p_seq_exit, p_block_normal, p_block_ret, p_block_exit, p_fin_ret, p_fin_normal, reduceIte, Nat.reduceEqDiff, resV, resOne, resL, gv, Option.some.injEq, exists_eq_left', Option.bind_some, Option.map_some, List.getD_cons_zero, List.getD_cons_succ]
      have hk1 : c - p < k := hk ▸ Nat.sub_lt_sub_right hpm hmq
      exact Round.mk (c - p) hk1 ⟨p, c, _, hlp, hpm, Nat.le_trans (Nat.le_of_lt hmq) hqh, rfl, hp, .inr ⟨hcL, hcR, hg'⟩, hx.trans hx3, rfl⟩
  have hpq' : p = q := by simp at hlt; omega
  subst hpq'
  refine s_exit1 ?_
  simp +decide only [p_seq_normal, p_seq_ret, p_seq_exit, p_block_normal, p_block_ret, p_block_exit, p_fin_ret, p_fin_normal, reduceIte, Nat.reduceEqDiff, resV, resOne, resL, gv, Option.some.injEq, exists_eq_left', Option.bind_some, Option.map_some, List.getD_cons_zero, List.getD_cons_succ]
  have hpL : p ≤ L.length := Nat.le_trans hqh hiL
  have hph : p ≤ h := Nat.le_trans hqh hih
  have hjR : h - p ≤ R.length := by clear hp hq; omega
  have hwe : IntKind.i64.wrap (((A.length + h + (A.length + L.length) : Nat) : Int) - ((A.length + p : Nat) : Int)) = ((A.length + L.length + (h - p) : Nat) : Int) := by clear hp hq; rw [subN (by omega) (by omega)]; omega
  have c1 : ∀ l ∈ L.take p, ∀ r ∈ R.drop (h - p), leT l r := bnd_le hL hR hpL (by
    intro k1 k2
    rcases hp with hp | ⟨g1, g2, hp⟩
    · rcases hlo with hlo | hlo
      · omega
      · subst hp; omega
    · exact hp)
  have c2 : ∀ r ∈ R.take (h - p), ∀ l ∈ L.drop p, ordT r l < 0 := bnd_lt hL hR hjR (by
    intro k1 k2
    rcases hq with hq | ⟨g1, g2, hq⟩
    · rcases hhi with hhi | hhi
      · subst hq; omega
      · subst hq; omega
    · have he : h - p - 1 = h - 1 - p := by omega
      simpa [he] using hq)
  have hmer := mergeF_split (L.take p) (R.take (h - p)) (L.drop p) (R.drop (h - p)) c1 c2
  rw [List.take_append_drop, List.take_append_drop] at hmer
  rw [hmer]
  have hLe : L = L.take p ++ L.drop p := (List.take_append_drop _ _).symm
  have hRe : R = R.take (h - p) ++ R.drop (h - p) := (List.take_append_drop _ _).symm
  have s1 := ws_take hL p
  have s2 := ws_drop hL p
  have s3 := ws_take hR (h - p)
  have s4 := ws_drop hR (h - p)
  have n1 : (L.take p).length = p := by simp; omega
  have n2 : (L.drop p).length = L.length - p := by simp
  have n3 : (R.take (h - p)).length = h - p := by simp; omega
  have n4 : (R.drop (h - p)).length = R.length - (h - p) := by simp
  have hv : VecT H1 blk s (A ++ (L.take p ++ L.drop p) ++ (R.take (h - p) ++ R.drop (h - p)) ++ B) := by rw [List.take_append_drop, List.take_append_drop]; exact VecT.ext hs hx
  have hc := Chg.of_ext (b := blk) hx
  have hnx := hx.next
  clear hp hq hmer c1 c2 hLe hRe hlo hhi
  generalize hl1 : L.take p = L1 at s1 n1 hv ⊢
  generalize hl2 : L.drop p = L2 at s2 n2 hv ⊢
  generalize hr1 : R.take (h - p) = R1 at s3 n3 hv ⊢
  generalize hr2 : R.drop (h - p) = R2 at s4 n4 hv ⊢
  refine s_reg ?_
  simp only [o_cont, o_callT, callV_fn, o_pure, o_eff, o_callF, o_callN, o_guard, gk_tt, gk_ff, gk_tf, gk_ft, gk_u, t_op, t_alt, t_nil, o_nil, POp.ev, Opd.ev, EOp.ev, env0, gu, gv, setD, resV, List.set, List.map, List.map_nil, List.map_cons, Option.map_none, Option.map_some, Option.some.injEq, exists_eq_left', pickV, binV, convV, load1V, max2V, min2V, nilchkV, unV, boolEq, isNilV, fadV, extV, slenV, ne_eq, not_true_eq_false, if_false, if_true, ite_true, ite_false, Bool.false_eq_true, Bool.true_eq_false, beq_true, beq_false, beq_self_eq_true, Bool.not_true, Bool.not_false, reduceCtorEq, List.getElem?_toArray, List.getElem?_cons_zero, List.getElem?_cons_succ, hwe]
  -- the turn
  refine s_cutI (fun e' H2 => VecT H2 blk s (A ++ L1 ++ R1 ++ L2 ++ R2 ++ B) ∧ Chg blk H' H2 ∧ e' = [s, .int .i64 A.length, .int .i64 ((A.length + L.length : Nat) : Int), .int .i64 ((A.length + L.length + R.length : Nat) : Int), cmpF, undef, undef, undef, undef, undef, undef, undef, undef, .int .i64 ((A.length + h : Nat) : Int), .int .i64 ((A.length + h + (A.length + L.length) : Nat) : Int), .int .i64 ((A.length + p : Nat) : Int), .int .i64 ((A.length + p : Nat) : Int), .int .i64 ((A.length + h + (A.length + L.length) - 1 : Nat) : Int), x18, .int .i64 ((A.length + L.length + (h - p) : Nat) : Int)]) ?_ ?_
  · refine s_test1 ?_
    by_cases g1 : p < L.length
    · have d1 : decide (((A.length + p : Nat) : Int) < ((A.length + L.length : Nat) : Int)) = true := decide_eq_true (by omega)
      simp only [o_cont, o_callT, callV_fn, o_pure, o_eff, o_callF, o_callN, o_guard, gk_tt, gk_ff, gk_tf, gk_ft, gk_u, t_op, t_alt, t_nil, o_nil, POp.ev, Opd.ev, EOp.ev, env0, gu, gv, setD, resV, List.set, List.map, List.map_nil, List.map_cons, Option.map_none, Option.map_some, Option.some.injEq, exists_eq_left', pickV, binV, convV, load1V, max2V, min2V, nilchkV, unV, boolEq, isNilV, fadV, extV, slenV, ne_eq, not_true_eq_false, if_false, if_true, ite_true, ite_false, Bool.false_eq_true, Bool.true_eq_false, beq_true, beq_false, beq_self_eq_true, Bool.not_true, Bool.not_false, reduceCtorEq, List.getElem?_toArray, List.getElem?_cons_zero, List.getElem?_cons_succ, d1]
      by_cases g2 : 0 < h - p
      · have d2 : decide (((A.length + L.length : Nat) : Int) < ((A.length + L.length + (h - p) : Nat) : Int)) = true := decide_eq_true (by omega)
        simp only [o_cont, o_callT, callV_fn, o_pure, o_eff, o_callF, o_callN, o_guard, gk_tt, gk_ff, gk_tf, gk_ft, gk_u, t_op, t_alt, t_nil, o_nil, POp.ev, Opd.ev, EOp.ev, env0, gu, gv, setD, resV, List.set, List.map, List.map_nil, List.map_cons, Option.map_none, Option.map_some, Option.some.injEq, exists_eq_left', pickV, binV, convV, load1V, max2V, min2V, nilchkV, unV, boolEq, isNilV, fadV, extV, slenV, ne_eq, not_true_eq_false, if_false, if_true, ite_true, ite_false, Bool.false_eq_true, Bool.true_eq_false, beq_true, beq_false, beq_self_eq_true, Bool.not_true, Bool.not_false, reduceCtorEq, List.getElem?_toArray, List.getElem?_cons_zero, List.getElem?_cons_succ, d2]
        refine Test.true_ (s_reg1 ?_)
        simp only [o_cont, o_callT, callV_fn, o_pure, o_eff, o_callF, o_callN, o_guard, gk_tt, gk_ff, gk_tf, gk_ft, gk_u, t_op, t_alt, t_nil, o_nil, POp.ev, Opd.ev, EOp.ev, env0, gu, gv, setD, resV, List.set, List.map, List.map_nil, List.map_cons, Option.map_none, Option.map_some, Option.some.injEq, exists_eq_left', pickV, binV, convV, load1V, max2V, min2V, nilchkV, unV, boolEq, isNilV, fadV, extV, slenV, ne_eq, not_true_eq_false, if_false, if_true, ite_true, ite_false, Bool.false_eq_true, Bool.true_eq_false, beq_true, beq_false, beq_self_eq_true, Bool.not_true, Bool.not_false, reduceCtorEq, List.getElem?_toArray, List.getElem?_cons_zero, List.getElem?_cons_succ]
        have hcall := rotate_ok lim s blk (A ++ L1) L2 R1 (R2 ++ B) H1 (by simpa using hv) hl (by simp; omega) (by intro e; rw [e] at n2; simp at n2; omega) (by intro e; rw [e] at n3; simp at n3; omega)
          (a := ((A.length + p : Nat) : Int)) (m := ((A.length + L.length : Nat) : Int)) (b := ((A.length + L.length + (h - p) : Nat) : Int)) (by simp; omega) (by simp; omega) (by simp; omega)
        refine hcall.mono ?_
        rintro _ H2 ⟨hv2, hc2⟩
        simp only [o_cont, o_callT, callV_fn, o_pure, o_eff, o_callF, o_callN, o_guard, gk_tt, gk_ff, gk_tf, gk_ft, gk_u, t_op, t_alt, t_nil, o_nil, POp.ev, Opd.ev, EOp.ev, env0, gu, gv, setD, resV, List.set, List.map, List.map_nil, List.map_cons, Option.map_none, Option.map_some, Option.some.injEq, exists_eq_left', pickV, binV, convV, load1V, max2V, min2V, nilchkV, unV, boolEq, isNilV, fadV, extV, slenV, ne_eq, not_true_eq_false, if_false, if_true, ite_true, ite_false, Bool.false_eq_true, Bool.true_eq_false, beq_true, beq_false, beq_self_eq_true, Bool.not_true, Bool.not_false, reduceCtorEq, List.getElem?_toArray, List.getElem?_cons_zero, List.getElem?_cons_succ]
        simp +decide only [p_seq_normal, p_seq_ret, p_seq_exit, p_block_normal, p_block_ret, p_block_exit, p_fin_ret, p_fin_normal, reduceIte, Nat.reduceEqDiff, resV, resOne, resL, gv, Option.some.injEq, exists_eq_left', Option.bind_some, Option.map_some, List.getD_cons_zero, List.getD_cons_succ]
        exact ⟨by simpa using hv2, hc.trans hc2, trivial⟩
      · have d2 : decide (((A.length + L.length : Nat) : Int) < ((A.length + L.length + (h - p) : Nat) : Int)) = false := decide_eq_false (by omega)
        have hR0 : R1 = [] := List.length_eq_zero_iff.1 (by omega)
        simp only [o_cont, o_callT, callV_fn, o_pure, o_eff, o_callF, o_callN, o_guard, gk_tt, gk_ff, gk_tf, gk_ft, gk_u, t_op, t_alt, t_nil, o_nil, POp.ev, Opd.ev, EOp.ev, env0, gu, gv, setD, resV, List.set, List.map, List.map_nil, List.map_cons, Option.map_none, Option.map_some, Option.some.injEq, exists_eq_left', pickV, binV, convV, load1V, max2V, min2V, nilchkV, unV, boolEq, isNilV, fadV, extV, slenV, ne_eq, not_true_eq_false, if_false, if_true, ite_true, ite_false, Bool.false_eq_true, Bool.true_eq_false, beq_true, beq_false, beq_self_eq_true, Bool.not_true, Bool.not_false, reduceCtorEq, List.getElem?_toArray, List.getElem?_cons_zero, List.getElem?_cons_succ, d2]
        refine Test.false_ (s_skip1 ?_)
        simp +decide only [p_seq_normal, p_seq_ret, p_seq_exit, p_block_normal, p_block_ret, p_block_exit, p_fin_ret, p_fin_normal, reduceIte, Nat.reduceEqDiff, resV, resOne, resL, gv, Option.some.injEq, exists_eq_left', Option.bind_some, Option.map_some, List.getD_cons_zero, List.getD_cons_succ]
        subst hR0
        exact ⟨by simpa using hv, hc, trivial⟩
    · have d1 : decide (((A.length + p : Nat) : Int) < ((A.length + L.length : Nat) : Int)) = false := decide_eq_false (by omega)
      have hL2 : L2 = [] := List.length_eq_zero_iff.1 (by omega)
      simp only [o_cont, o_callT, callV_fn, o_pure, o_eff, o_callF, o_callN, o_guard, gk_tt, gk_ff, gk_tf, gk_ft, gk_u, t_op, t_alt, t_nil, o_nil, POp.ev, Opd.ev, EOp.ev, env0, gu, gv, setD, resV, List.set, List.map, List.map_nil, List.map_cons, Option.map_none, Option.map_some, Option.some.injEq, exists_eq_left', pickV, binV, convV, load1V, max2V, min2V, nilchkV, unV, boolEq, isNilV, fadV, extV, slenV, ne_eq, not_true_eq_false, if_false, if_true, ite_true, ite_false, Bool.false_eq_true, Bool.true_eq_false, beq_true, beq_false, beq_self_eq_true, Bool.not_true, Bool.not_false, reduceCtorEq, List.getElem?_toArray, List.getElem?_cons_zero, List.getElem?_cons_succ, d1]
      refine Test.false_ (s_skip1 ?_)
      simp +decide only [p_seq_normal, p_seq_ret, p_seq_exit, p_block_normal, p_block_ret, p_block_exit, p_fin_ret, p_fin_normal, reduceIte, Nat.reduceEqDiff, resV, resOne, resL, gv, Option.some.injEq, exists_eq_left', Option.bind_some, Option.map_some, List.getD_cons_zero, List.getD_cons_succ]
      subst hL2
      exact ⟨by simpa using hv, hc, trivial⟩
  rintro e' H2 ⟨hv2, hc2, rfl⟩
  have hn2 := hc2.next
  -- the lower part
  refine s_cutI (fun e' H3 => VecT H3 blk s (A ++ mergeF L1 R1 ++ L2 ++ R2 ++ B) ∧ Chg blk H' H3 ∧ e' = [s, .int .i64 A.length, .int .i64 ((A.length + L.length : Nat) : Int), .int .i64 ((A.length + L.length + R.length : Nat) : Int), cmpF, undef, undef, undef, undef, undef, undef, undef, undef, .int .i64 ((A.length + h : Nat) : Int), .int .i64 ((A.length + h + (A.length + L.length) : Nat) : Int), .int .i64 ((A.length + p : Nat) : Int), .int .i64 ((A.length + p : Nat) : Int), .int .i64 ((A.length + h + (A.length + L.length) - 1 : Nat) : Int), x18, .int .i64 ((A.length + L.length + (h - p) : Nat) : Int)]) ?_ ?_
  · refine s_test1 ?_
    by_cases g1 : 0 < p
    · have d1 : decide ((A.length : Int) < ((A.length + p : Nat) : Int)) = true := decide_eq_true (by omega)
      simp only [o_cont, o_callT, callV_fn, o_pure, o_eff, o_callF, o_callN, o_guard, gk_tt, gk_ff, gk_tf, gk_ft, gk_u, t_op, t_alt, t_nil, o_nil, POp.ev, Opd.ev, EOp.ev, env0, gu, gv, setD, resV, List.set, List.map, List.map_nil, List.map_cons, Option.map_none, Option.map_some, Option.some.injEq, exists_eq_left', pickV, binV, convV, load1V, max2V, min2V, nilchkV, unV, boolEq, isNilV, fadV, extV, slenV, ne_eq, not_true_eq_false, if_false, if_true, ite_true, ite_false, Bool.false_eq_true, Bool.true_eq_false, beq_true, beq_false, beq_self_eq_true, Bool.not_true, Bool.not_false, reduceCtorEq, List.getElem?_toArray, List.getElem?_cons_zero, List.getElem?_cons_succ, d1]
      by_cases g2 : p < h
      · have d2 : decide (((A.length + p : Nat) : Int) < ((A.length + h : Nat) : Int)) = true := decide_eq_true (by omega)
        simp only [o_cont, o_callT, callV_fn, o_pure, o_eff, o_callF, o_callN, o_guard, gk_tt, gk_ff, gk_tf, gk_ft, gk_u, t_op, t_alt, t_nil, o_nil, POp.ev, Opd.ev, EOp.ev, env0, gu, gv, setD, resV, List.set, List.map, List.map_nil, List.map_cons, Option.map_none, Option.map_some, Option.some.injEq, exists_eq_left', pickV, binV, convV, load1V, max2V, min2V, nilchkV, unV, boolEq, isNilV, fadV, extV, slenV, ne_eq, not_true_eq_false, if_false, if_true, ite_true, ite_false, Bool.false_eq_true, Bool.true_eq_false, beq_true, beq_false, beq_self_eq_true, Bool.not_true, Bool.not_false, reduceCtorEq, List.getElem?_toArray, List.getElem?_cons_zero, List.getElem?_cons_succ, d2]
        refine Test.true_ (s_reg1 ?_)
        simp only [o_cont, o_callT, callV_fn, o_pure, o_eff, o_callF, o_callN, o_guard, gk_tt, gk_ff, gk_tf, gk_ft, gk_u, t_op, t_alt, t_nil, o_nil, POp.ev, Opd.ev, EOp.ev, env0, gu, gv, setD, resV, List.set, List.map, List.map_nil, List.map_cons, Option.map_none, Option.map_some, Option.some.injEq, exists_eq_left', pickV, binV, convV, load1V, max2V, min2V, nilchkV, unV, boolEq, isNilV, fadV, extV, slenV, ne_eq, not_true_eq_false, if_false, if_true, ite_true, ite_false, Bool.false_eq_true, Bool.true_eq_false, beq_true, beq_false, beq_self_eq_true, Bool.not_true, Bool.not_false, reduceCtorEq, List.getElem?_toArray, List.getElem?_cons_zero, List.getElem?_cons_succ]
        have hcall := ih A L1 R1 (L2 ++ R2 ++ B) H2 (by omega) (by simpa using hv2) (by omega) s1 s3 (by intro e; rw [e] at n1; simp at n1; omega) (by intro e; rw [e] at n3; simp at n3; omega) (by omega)
          (a := (A.length : Int)) (m := ((A.length + p : Nat) : Int)) (b := ((A.length + h : Nat) : Int)) rfl (by omega) (by omega)
        refine hcall.mono ?_
        rintro _ H3 ⟨hv3, hc3⟩
        simp only [o_cont, o_callT, callV_fn, o_pure, o_eff, o_callF, o_callN, o_guard, gk_tt, gk_ff, gk_tf, gk_ft, gk_u, t_op, t_alt, t_nil, o_nil, POp.ev, Opd.ev, EOp.ev, env0, gu, gv, setD, resV, List.set, List.map, List.map_nil, List.map_cons, Option.map_none, Option.map_some, Option.some.injEq, exists_eq_left', pickV, binV, convV, load1V, max2V, min2V, nilchkV, unV, boolEq, isNilV, fadV, extV, slenV, ne_eq, not_true_eq_false, if_false, if_true, ite_true, ite_false, Bool.false_eq_true, Bool.true_eq_false, beq_true, beq_false, beq_self_eq_true, Bool.not_true, Bool.not_false, reduceCtorEq, List.getElem?_toArray, List.getElem?_cons_zero, List.getElem?_cons_succ]
        simp +decide only [p_seq_normal, p_seq_ret, p_seq_exit, p_block_normal, p_block_ret, p_block_exit, p_fin_ret, p_fin_normal, reduceIte, Nat.reduceEqDiff, resV, resOne, resL, gv, Option.some.injEq, exists_eq_left', Option.bind_some, Option.map_some, List.getD_cons_zero, List.getD_cons_succ]
        exact ⟨by simpa using hv3, hc2.trans hc3, trivial⟩
      · have d2 : decide (((A.length + p : Nat) : Int) < ((A.length + h : Nat) : Int)) = false := decide_eq_false (by omega)
        have hR0 : R1 = [] := List.length_eq_zero_iff.1 (by omega)
        simp only [o_cont, o_callT, callV_fn, o_pure, o_eff, o_callF, o_callN, o_guard, gk_tt, gk_ff, gk_tf, gk_ft, gk_u, t_op, t_alt, t_nil, o_nil, POp.ev, Opd.ev, EOp.ev, env0, gu, gv, setD, resV, List.set, List.map, List.map_nil, List.map_cons, Option.map_none, Option.map_some, Option.some.injEq, exists_eq_left', pickV, binV, convV, load1V, max2V, min2V, nilchkV, unV, boolEq, isNilV, fadV, extV, slenV, ne_eq, not_true_eq_false, if_false, if_true, ite_true, ite_false, Bool.false_eq_true, Bool.true_eq_false, beq_true, beq_false, beq_self_eq_true, Bool.not_true, Bool.not_false, reduceCtorEq, List.getElem?_toArray, List.getElem?_cons_zero, List.getElem?_cons_succ, d2]
        refine Test.false_ (s_skip1 ?_)
        simp +decide only [p_seq_normal, p_seq_ret, p_seq_exit, p_block_normal, p_block_ret, p_block_exit, p_fin_ret, p_fin_normal, reduceIte, Nat.reduceEqDiff, resV, resOne, resL, gv, Option.some.injEq, exists_eq_left', Option.bind_some, Option.map_some, List.getD_cons_zero, List.getD_cons_succ]
        subst hR0
        exact ⟨by simpa [mergeF_nil] using hv2, hc2, trivial⟩
    · have d1 : decide ((A.length : Int) < ((A.length + p : Nat) : Int)) = false := decide_eq_false (by omega)
      have hL2 : L1 = [] := List.length_eq_zero_iff.1 (by omega)
      simp only [o_cont, o_callT, callV_fn, o_pure, o_eff, o_callF, o_callN, o_guard, gk_tt, gk_ff, gk_tf, gk_ft, gk_u, t_op, t_alt, t_nil, o_nil, POp.ev, Opd.ev, EOp.ev, env0, gu, gv, setD, resV, List.set, List.map, List.map_nil, List.map_cons, Option.map_none, Option.map_some, Option.some.injEq, exists_eq_left', pickV, binV, convV, load1V, max2V, min2V, nilchkV, unV, boolEq, isNilV, fadV, extV, slenV, ne_eq, not_true_eq_false, if_false, if_true, ite_true, ite_false, Bool.false_eq_true, Bool.true_eq_false, beq_true, beq_false, beq_self_eq_true, Bool.not_true, Bool.not_false, reduceCtorEq, List.getElem?_toArray, List.getElem?_cons_zero, List.getElem?_cons_succ, d1]
      refine Test.false_ (s_skip1 ?_)
      simp +decide only [p_seq_normal, p_seq_ret, p_seq_exit, p_block_normal, p_block_ret, p_block_exit, p_fin_ret, p_fin_normal, reduceIte, Nat.reduceEqDiff, resV, resOne, resL, gv, Option.some.injEq, exists_eq_left', Option.bind_some, Option.map_some, List.getD_cons_zero, List.getD_cons_succ]
      subst hL2
      exact ⟨by simpa [mergeF_nil_l] using hv2, hc2, trivial⟩
  rintro e' H3 ⟨hv3, hc3, rfl⟩
  have hn3 := hc3.next
  have hml := mergeF_length L1 R1
  -- the upper part
  refine s_test1 ?_
  by_cases g1 : p < L.length
  · have d1 : decide (((A.length + h : Nat) : Int) < ((A.length + L.length + (h - p) : Nat) : Int)) = true := decide_eq_true (by omega)
    simp only [o_cont, o_callT, callV_fn, o_pure, o_eff, o_callF, o_callN, o_guard, gk_tt, gk_ff, gk_tf, gk_ft, gk_u, t_op, t_alt, t_nil, o_nil, POp.ev, Opd.ev, EOp.ev, env0, gu, gv, setD, resV, List.set, List.map, List.map_nil, List.map_cons, Option.map_none, Option.map_some, Option.some.injEq, exists_eq_left', pickV, binV, convV, load1V, max2V, min2V, nilchkV, unV, boolEq, isNilV, fadV, extV, slenV, ne_eq, not_true_eq_false, if_false, if_true, ite_true, ite_false, Bool.false_eq_true, Bool.true_eq_false, beq_true, beq_false, beq_self_eq_true, Bool.not_true, Bool.not_false, reduceCtorEq, List.getElem?_toArray, List.getElem?_cons_zero, List.getElem?_cons_succ, d1]
    by_cases g2 : h - p < R.length
    · have d2 : decide (((A.length + L.length + (h - p) : Nat) : Int) < ((A.length + L.length + R.length : Nat) : Int)) = true := decide_eq_true (by omega)
      simp only [o_cont, o_callT, callV_fn, o_pure, o_eff, o_callF, o_callN, o_guard, gk_tt, gk_ff, gk_tf, gk_ft, gk_u, t_op, t_alt, t_nil, o_nil, POp.ev, Opd.ev, EOp.ev, env0, gu, gv, setD, resV, List.set, List.map, List.map_nil, List.map_cons, Option.map_none, Option.map_some, Option.some.injEq, exists_eq_left', pickV, binV, convV, load1V, max2V, min2V, nilchkV, unV, boolEq, isNilV, fadV, extV, slenV, ne_eq, not_true_eq_false, if_false, if_true, ite_true, ite_false, Bool.false_eq_true, Bool.true_eq_false, beq_true, beq_false, beq_self_eq_true, Bool.not_true, Bool.not_false, reduceCtorEq, List.getElem?_toArray, List.getElem?_cons_zero, List.getElem?_cons_succ, d2]
      refine Test.true_ (s_reg1 ?_)
      simp only [o_cont, o_callT, callV_fn, o_pure, o_eff, o_callF, o_callN, o_guard, gk_tt, gk_ff, gk_tf, gk_ft, gk_u, t_op, t_alt, t_nil, o_nil, POp.ev, Opd.ev, EOp.ev, env0, gu, gv, setD, resV, List.set, List.map, List.map_nil, List.map_cons, Option.map_none, Option.map_some, Option.some.injEq, exists_eq_left', pickV, binV, convV, load1V, max2V, min2V, nilchkV, unV, boolEq, isNilV, fadV, extV, slenV, ne_eq, not_true_eq_false, if_false, if_true, ite_true, ite_false, Bool.false_eq_true, Bool.true_eq_false, beq_true, beq_false, beq_self_eq_true, Bool.not_true, Bool.not_false, reduceCtorEq, List.getElem?_toArray, List.getElem?_cons_zero, List.getElem?_cons_succ]
      have hcall := ih (A ++ mergeF L1 R1) L2 R2 B H3 (by omega) (by simpa using hv3) (by omega) s2 s4 (by intro e; rw [e] at n2; simp at n2; omega) (by intro e; rw [e] at n4; simp at n4; omega) (by simp; omega)
        (a := ((A.length + h : Nat) : Int)) (m := ((A.length + L.length + (h - p) : Nat) : Int)) (b := ((A.length + L.length + R.length : Nat) : Int)) (by simp; omega) (by simp; omega) (by simp; omega)
      refine hcall.mono ?_
      rintro _ H4 ⟨hv4, hc4⟩
      simp only [o_cont, o_callT, callV_fn, o_pure, o_eff, o_callF, o_callN, o_guard, gk_tt, gk_ff, gk_tf, gk_ft, gk_u, t_op, t_alt, t_nil, o_nil, POp.ev, Opd.ev, EOp.ev, env0, gu, gv, setD, resV, List.set, List.map, List.map_nil, List.map_cons, Option.map_none, Option.map_some, Option.some.injEq, exists_eq_left', pickV, binV, convV, load1V, max2V, min2V, nilchkV, unV, boolEq, isNilV, fadV, extV, slenV, ne_eq, not_true_eq_false, if_false, if_true, ite_true, ite_false, Bool.false_eq_true, Bool.true_eq_false, beq_true, beq_false, beq_self_eq_true, Bool.not_true, Bool.not_false, reduceCtorEq, List.getElem?_toArray, List.getElem?_cons_zero, List.getElem?_cons_succ]
      simp +decide only [p_seq_normal, p_seq_ret, p_seq_exit, p_block_normal, p_block_ret, p_block_exit, p_fin_ret, p_fin_normal, reduceIte, Nat.reduceEqDiff, resV, resOne, resL, gv, Option.some.injEq, exists_eq_left', Option.bind_some, Option.map_some, List.getD_cons_zero, List.getD_cons_succ]
      exact ⟨by simpa using hv4, hc3.trans hc4⟩
    · have d2 : decide (((A.length + L.length + (h - p) : Nat) : Int) < ((A.length + L.length + R.length : Nat) : Int)) = false := decide_eq_false (by omega)
      have hR0 : R2 = [] := List.length_eq_zero_iff.1 (by omega)
      simp only [o_cont, o_callT, callV_fn, o_pure, o_eff, o_callF, o_callN, o_guard, gk_tt, gk_ff, gk_tf, gk_ft, gk_u, t_op, t_alt, t_nil, o_nil, POp.ev, Opd.ev, EOp.ev, env0, gu, gv, setD, resV, List.set, List.map, List.map_nil, List.map_cons, Option.map_none, Option.map_some, Option.some.injEq, exists_eq_left', pickV, binV, convV, load1V, max2V, min2V, nilchkV, unV, boolEq, isNilV, fadV, extV, slenV, ne_eq, not_true_eq_false, if_false, if_true, ite_true, ite_false, Bool.false_eq_true, Bool.true_eq_false, beq_true, beq_false, beq_self_eq_true, Bool.not_true, Bool.not_false, reduceCtorEq, List.getElem?_toArray, List.getElem?_cons_zero, List.getElem?_cons_succ, d2]
      refine Test.false_ (s_skip1 ?_)
      simp +decide only [p_seq_normal, p_seq_ret, p_seq_exit, p_block_normal, p_block_ret, p_block_exit, p_fin_ret, p_fin_normal, reduceIte, Nat.reduceEqDiff, resV, resOne, resL, gv, Option.some.injEq, exists_eq_left', Option.bind_some, Option.map_some, List.getD_cons_zero, List.getD_cons_succ]
      subst hR0
      exact ⟨by simpa [mergeF_nil] using hv3, hc3⟩
  · have hL2 : L2 = [] := List.length_eq_zero_iff.1 (by omega)
    have d1 : decide (((A.length + h : Nat) : Int) < ((A.length + L.length + (h - p) : Nat) : Int)) = false := decide_eq_false (by omega)
    simp only [o_cont, o_callT, callV_fn, o_pure, o_eff, o_callF, o_callN, o_guard, gk_tt, gk_ff, gk_tf, gk_ft, gk_u, t_op, t_alt, t_nil, o_nil, POp.ev, Opd.ev, EOp.ev, env0, gu, gv, setD, resV, List.set, List.map, List.map_nil, List.map_cons, Option.map_none, Option.map_some, Option.some.injEq, exists_eq_left', pickV, binV, convV, load1V, max2V, min2V, nilchkV, unV, boolEq, isNilV, fadV, extV, slenV, ne_eq, not_true_eq_false, if_false, if_true, ite_true, ite_false, Bool.false_eq_true, Bool.true_eq_false, beq_true, beq_false, beq_self_eq_true, Bool.not_true, Bool.not_false, reduceCtorEq, List.getElem?_toArray, List.getElem?_cons_zero, List.getElem?_cons_succ, d1]
    refine Test.false_ (s_skip1 ?_)
    simp +decide only [p_seq_normal, p_seq_ret, p_seq_exit, p_block_normal, p_block_ret, p_block_exit, p_fin_ret, p_fin_normal, reduceIte, Nat.reduceEqDiff, resV, resOne, resL, gv, Option.some.injEq, exists_eq_left', Option.bind_some, Option.map_some, List.getD_cons_zero, List.getD_cons_succ]
    subst hL2
    exact ⟨by simpa [mergeF_nil_l] using hv3, hc3⟩
end Go.Proofs.Ytaimceodhhgnnaa
