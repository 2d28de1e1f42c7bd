/- Parts of the proof of a statement of this seat: contracts of functions that the law calls, or the law's own row; no condition. -/
import Derived.Test.YtmdeppkfboaepaaGreatM3
/- Sorting of terms, part 2 of the walk of merging in place: two lists in order merged; no condition beyond stated lengths. -/
namespace Go.Proofs.YtmdeppkfboaepaaGreat
open Go.Ab
set_option linter.unusedSimpArgs false
set_option linter.unusedVariables false
theorem s_cutI {P : Program} {lim : Nat} {Q : Post} {e : List Value} {H : AHeap} {a b : ACode} (I : List Value → AHeap → Prop) (h : awp P lim a (Post.seq I (fun _ _ _ => False)) e H) (h1 : ∀ e' H', I e' H' → awp P lim b Q e' H') : awp P lim (.seq a b) Q e H :=
 s_cut1 I h h1
theorem ws_le {l : List Tm} (h : WS l) {i j : Nat} (hij : i ≤ j) (hj : j < l.length) : leT (l[i]'(by omega)) l[j] := by
 by_cases he : i = j
 · subst he
   have := ordT_neg l[i] l[i]
   unfold leT
   omega
 · exact List.pairwise_iff_getElem.1 h i j (by omega) hj (by omega)
theorem bnd_le {L R : List Tm} (hL : WS L) (hR : WS R) {k j : Nat} (hk : k ≤ L.length) (h : ∀ (h1 : 0 < k) (h2 : j < R.length), leT (L[k - 1]'(by omega)) R[j]) : ∀ l ∈ L.take k, ∀ r ∈ R.drop j, leT l r := by
 intro l hl r hr
 obtain ⟨i, hi, rfl⟩ := List.getElem_of_mem hl
 obtain ⟨i2, hi2, rfl⟩ := List.getElem_of_mem hr
 simp only [List.length_take, List.length_drop] at hi hi2
 rw [List.getElem_take, List.getElem_drop]
 have h1 := ws_le hL (i := i) (j := k - 1) (by omega) (by omega)
 have h2 := h (by omega) (by omega)
 have h3 := ws_le hR (i := j) (j := j + i2) (by omega) (by omega)
 exact leT_trans (leT_trans h1 h2) h3
theorem bnd_lt {L R : List Tm} (hL : WS L) (hR : WS R) {k j : Nat} (hj : j ≤ R.length) (h : ∀ (h1 : 0 < j) (h2 : k < L.length), ordT (R[j - 1]'(by omega)) L[k] < 0) : ∀ r ∈ R.take j, ∀ l ∈ L.drop k, ordT r l < 0 := by
 intro r hr l hl
 obtain ⟨i, hi, rfl⟩ := List.getElem_of_mem hl
 obtain ⟨i2, hi2, rfl⟩ := List.getElem_of_mem hr
 simp only [List.length_take, List.length_drop] at hi hi2
 rw [List.getElem_take, List.getElem_drop]
 have h1 := ws_le hR (i := i2) (j := j - 1) (by omega) (by omega)
 have h2 := h (by omega) (by omega)
 have h3 := ws_le hL (i := k) (j := k + i) (by omega) (by omega)
 exact lt_le_trans (le_lt_trans h1 h2) h3
theorem ws_take {l : List Tm} (h : WS l) (k : Nat) : WS (l.take k) := h.sublist (List.take_sublist _ _)
theorem ws_drop {l : List Tm} (h : WS l) (k : Nat) : WS (l.drop k) := h.sublist (List.drop_sublist _ _)
theorem merge_one {x : Tm} {R : List Tm} (hR : WS R) {p : Nat} (hp : p ≤ R.length) (h1 : p = 0 ∨ ∃ h : p - 1 < R.length, ordT R[p - 1] x < 0) (h2 : p = R.length ∨ ∃ h : p < R.length, ¬ ordT R[p] x < 0) :
   mergeF [x] R = R.take p ++ x :: R.drop p := by
 have a1 : ∀ r ∈ R.take p, ∀ l ∈ [x], ordT r l < 0 := by
   have := bnd_lt (L := [x]) (R := R) (List.pairwise_singleton _ _) hR (k := 0) (j := p) hp (by
     intro k1 k2
     rcases h1 with h1 | ⟨h, h1⟩
     · omega
     · simpa using h1)
   simpa using this
 have a2 : ∀ l ∈ [x], ∀ r ∈ R.drop p, leT l r := by
   have := bnd_le (L := [x]) (R := R) (List.pairwise_singleton _ _) hR (k := 1) (j := p) (by simp) (by
     intro k1 k2
     rcases h2 with h2 | ⟨h, h2⟩
     · omega
     · simpa [leT] using h2)
   simpa using this
 have e1 := mergeF_split [] (R.take p) [x] (R.drop p) (by simp) a1
 have e2 := mergeF_split [x] [] [] (R.drop p) a2 (by simp)
 rw [List.nil_append, List.take_append_drop] at e1
 rw [List.append_nil, List.nil_append] at e2
 rw [e1, e2, mergeF_nil, mergeF_nil_l, mergeF_nil_l]
 rfl
theorem merge_last {y : Tm} {L : List Tm} (hL : WS L) {p : Nat} (hp : p ≤ L.length) (h1 : p = 0 ∨ ∃ h : p - 1 < L.length, ¬ ordT y L[p - 1] < 0) (h2 : p = L.length ∨ ∃ h : p < L.length, ordT y L[p] < 0) :
   mergeF L [y] = L.take p ++ y :: L.drop p := by
 have a1 : ∀ l ∈ L.take p, ∀ r ∈ [y], leT l r := by
   have := bnd_le (L := L) (R := [y]) hL (List.pairwise_singleton _ _) (k := p) (j := 0) hp (by
     intro k1 k2
     rcases h1 with h1 | ⟨h, h1⟩
     · omega
     · simpa [leT] using h1)
   simpa using this
 have a2 : ∀ r ∈ [y], ∀ l ∈ L.drop p, ordT r l < 0 := by
   have := bnd_lt (L := L) (R := [y]) hL (List.pairwise_singleton _ _) (k := p) (j := 1) (by simp) (by
     intro k1 k2
     rcases h2 with h2 | ⟨h, h2⟩
     · omega
     · simpa using h2)
   simpa using this
 have e1 := mergeF_split (L.take p) [] (L.drop p) [y] a1 (by simp)
 have e2 := mergeF_split [] [y] (L.drop p) [] (by simp) a2
 rw [List.nil_append, List.take_append_drop] at e1
 rw [List.append_nil, List.nil_append] at e2
 rw [e1, e2, mergeF_nil, mergeF_nil, mergeF_nil_l]
 rfl
theorem half_ok {i j : Nat} (h : i + j < 1000000000) : IntKind.i64.wrap ((i : Int) + (j : Int)) = ((i + j : Nat) : Int) := addN (by omega)
theorem mid_ok {n m : Nat} (h : n < 1000000000) (hm : n / 2 = m) : IntKind.i64.wrap ((IntKind.u64.wrap (n : Int)).fdiv (2 ^ min (Int.toNat 1) IntKind.u64.bits)) = (m : Int) := by
 have e1 : IntKind.u64.wrap (n : Int) = (n : Int) := by
   have : (2 : Int) ^ IntKind.u64.bits = 18446744073709551616 := by decide
   simp only [IntKind.wrap, this, IntKind.signed, Bool.false_and]
   simp
   omega
 have e2 : (2 : Int) ^ min (Int.toNat 1) IntKind.u64.bits = 2 := by decide
 rw [e1, e2, Int.fdiv_eq_ediv_of_nonneg _ (by omega), IntKind.wrap_i64]
 omega
theorem symMerge_ok (lim : Nat) (s : Value) (blk : Nat) (hl : lim ≤ blk) : ∀ (N : Nat) (A L R B : List Tm) (H : AHeap), L.length + R.length ≤ N → VecT H blk s (A ++ L ++ R ++ B) → blk < H.next → WS L → WS R → L ≠ [] → R ≠ [] → A.length + L.length + R.length ≤ 100000 →
   ∀ {a m b : Int}, a = (A.length : Int) → m = ((A.length + L.length : Nat) : Int) → b = ((A.length + L.length + R.length : Nat) : Int) →
   ACalls Tryz.prog lim n_slices_symMergeCmpFunc_impl_Term [s, .int .i64 a, .int .i64 m, .int .i64 b, cmpF] H fun v H' => VecT H' blk s (A ++ mergeF L R ++ B) ∧ Chg blk H H' := by
 intro N
 induction N with
 | zero =>
   intro A L R B H hN _ _ _ _ hL0
   exact absurd (List.length_eq_zero_iff.1 (by omega)) hL0
 | succ N ih =>
 intro A L R B H hN hs hb hL hR hL0 hR0 hn a m b ha hm hbb
 subst ha hm hbb
 have e10 : ¬ (1 : Int) < 0 := by decide
 have hLp : 0 < L.length := List.length_pos_iff.2 hL0
 have hRp : 0 < R.length := List.length_pos_iff.2 hR0
 refine is_slices_symMergeCmpFunc_impl_Term.go rfl ?_
 unfold c_slices_symMergeCmpFunc_impl_Term
 have w0 : IntKind.i64.wrap (((A.length + L.length : Nat) : Int) - (A.length : Int)) = (L.length : Int) := by rw [subN (by omega) (by omega)]; omega
 have w1 : IntKind.i64.wrap (((A.length + L.length + R.length : Nat) : Int) - ((A.length + L.length : Nat) : Int)) = (R.length : Int) := by rw [subN (by omega) (by omega)]; omega
 refine s_test ?_
 simp only [o_pure, o_nil, POp.ev, Opd.ev, env0, gu, gv, setD, xsj, xel, binV, ne_eq, xnt, if_false, w0]
 by_cases hL1 : L.length = 1
 · obtain ⟨x, rfl⟩ : ∃ x, L = [x] := List.length_eq_one_iff.1 hL1
   refine Test.true_ ?_
   refine s_reg ?_
   simp only [o_pure, o_nil, POp.ev, Opd.ev, gv, setD, List.set, xsj, xel]
   refine s_reg ?_
   simp only [o_pure, o_nil, POp.ev, Opd.ev, gv, setD, List.set, xsj, xel]
   refine s_block ?_
   have hR1 : A.length + [x].length = A.length + 1 := by simp
   refine s_loop1 (fun k e' H' => ∃ (p q : Nat) (x7 : Value), p ≤ q ∧ q ≤ R.length ∧ q - p = k ∧ (p = 0 ∨ ∃ h : p - 1 < R.length, ordT R[p - 1] x < 0) ∧ (q = R.length ∨ ∃ h : q < R.length, ¬ ordT R[q] x < 0) ∧ Ext H H' ∧
     e' = [s, .int .i64 A.length, .int .i64 ((A.length + [x].length : Nat) : Int), .int .i64 ((A.length + [x].length + R.length : Nat) : Int), cmpF, .int .i64 ((A.length + [x].length + p : Nat) : Int), .int .i64 ((A.length + [x].length + q : Nat) : Int), x7, undef, undef, undef, undef, undef, undef, undef, undef, undef, undef, undef, undef]) R.length ⟨0, R.length, _, by omega, by omega, by omega, .inl rfl, .inl rfl, Ext.refl _, rfl⟩ ?_
   rintro k e' H' ⟨p, q, x7, hpq, hqR, hk, hp, hq, hx, rfl⟩
   refine s_test ?_
   simp only [o_pure, o_nil, POp.ev, Opd.ev, gv, setD, xsj, xel, binV, ne_eq, xnt, if_false]
   refine Test.split (fun hlt => ?_) (fun hlt => ?_)
   · have hlt' : p < q := by simp at hlt; omega
     refine s_skip1 ?_
     simp +decide only [pqn]
     refine s_block1 ?_
     refine s_reg ?_
     simp only [o_pure, o_nil, POp.ev, Opd.ev, gv, setD, List.set, xsj, xel, binV, convV, ne_eq, xnt, if_false, half_ok (i := A.length + [x].length + p) (j := A.length + [x].length + q) (by simp; omega), if_neg e10, mid_ok (n := A.length + [x].length + p + (A.length + [x].length + q)) (m := A.length + [x].length + (p + q) / 2) (by simp; omega) (by omega)]
     have hmq : (p + q) / 2 < q := by omega
     have hpm : p ≤ (p + q) / 2 := by omega
     generalize (p + q) / 2 = c at hmq hpm ⊢
     have hv := VecT.ext hs hx
     obtain ⟨j1, a1⟩ := VecT.at (show VecT H' blk s ((A ++ [x]) ++ R ++ B) by simpa using hv) (i := A.length + [x].length + c) (by simp; omega)
     have g1 : ((A ++ [x]) ++ R ++ B)[A.length + [x].length + c]'(by simp; omega) = R[c] := by
       rw [List.getElem_append_left (by simp; omega), List.getElem_append_right (by simp)]
       congr 1
       simp
     rw [g1] at a1
     obtain ⟨j2, a2⟩ := VecT.at (show VecT H' blk s (A ++ x :: (R ++ B)) by simpa using hv) (i := A.length) (by simp)
     rw [get_mid rfl] at a2
     refine s_test1 ?_
     simp only [o_callT, callV_fn, o_pure, POp.ev, Opd.ev, gv, setD, List.map, xsj, xel, j1, a1.all, j2, a2.all]
     refine (compareTerms_ok _ _ _ _).mono ?_
     rintro _ H3 ⟨rfl, hx3⟩
     simp only [o_cont, o_pure, o_nil, POp.ev, Opd.ev, gv, setD, xsj, xel, binV, ne_eq, xnt, if_false, cmpT_eq]
     refine Test.split (fun hg => ?_) (fun hg => ?_)
     · have hg' : ordT R[c] x < 0 := by simpa using hg
       refine s_reg1 ?_
       simp only [o_pure, o_nil, POp.ev, Opd.ev, gv, setD, List.set, xsj, xel, binV, ne_eq, xnt, if_false, add1 (i := A.length + [x].length + c) (by simp; omega)]
       simp +decide only [pqn, pbn]
       have hk1 : q - (c + 1) < k := hk ▸ Nat.sub_lt_sub_left hlt' (Nat.lt_succ_of_le hpm)
       have hc1 : c + 1 - 1 < R.length := Nat.lt_of_lt_of_le hmq hqR
       exact Round.mk (q - (c + 1)) hk1 ⟨c + 1, q, _, hmq, hqR, rfl, .inr ⟨hc1, by simpa using hg'⟩, hq, hx.trans hx3, rfl⟩
     · have hg' : ¬ ordT R[c] x < 0 := by simpa using hg
       refine s_reg1 ?_
       simp only [o_pure, o_nil, POp.ev, Opd.ev, gv, setD, List.set, xsj, xel]
       simp +decide only [pqn, pbn]
       have hk1 : c - p < k := hk ▸ Nat.sub_lt_sub_right hpm hmq
       have hc1 : c < R.length := Nat.lt_of_lt_of_le hmq hqR
       exact Round.mk (c - p) hk1 ⟨p, c, _, hpm, Nat.le_of_lt hc1, rfl, hp, .inr ⟨hc1, hg'⟩, hx.trans hx3, rfl⟩
   · have hpq' : p = q := by simp at hlt; omega
     subst hpq'
     refine s_exit1 ?_
     simp +decide only [pqn, pqe, pbe, reduceIte]
     rw [merge_one hR hqR hp hq]
     have hRe : R = R.take p ++ R.drop p := (List.take_append_drop _ _).symm
     have hRl : (R.take p).length = p := by simp; omega
     have hv := VecT.ext hs hx
     have hc := Chg.of_ext (b := blk) hx
     have hbA : A.length + [x].length + R.length ≤ 100000 := hn
     generalize hR1e : R.take p = R1 at hRe hRl ⊢
     generalize hR2e : R.drop p = R2 at hRe ⊢
     refine s_assoc (s_reg ?_)
     simp only [o_pure, o_nil, POp.ev, Opd.ev, gv, setD, List.set, xsj, xel]
     refine s_block ?_
     refine s_loop1 (fun k e' H'' => ∃ (Ra Rb : List Tm), R1 = Ra ++ Rb ∧ Rb.length = k ∧ VecT H'' blk s (A ++ Ra ++ x :: (Rb ++ (R2 ++ B))) ∧ Chg blk H H'' ∧
       e' = [s, .int .i64 A.length, .int .i64 ((A.length + [x].length : Nat) : Int), .int .i64 ((A.length + [x].length + R.length : Nat) : Int), cmpF, .int .i64 ((A.length + [x].length + p : Nat) : Int), .int .i64 ((A.length + [x].length + p : Nat) : Int), x7, .int .i64 ((A.length + Ra.length : Nat) : Int), undef, undef, undef, undef, undef, undef, undef, undef, undef, undef, undef]) R1.length ⟨[], R1, rfl, rfl, by rw [hRe] at hv; simpa using hv, hc, rfl⟩ ?_
     rintro k e' H'' ⟨Ra, Rb, rfl, hk2, hv2, hc2, rfl⟩
     have hRab : Ra.length + Rb.length = p := by simpa using hRl
     have hw : IntKind.i64.wrap (((A.length + [x].length + p : Nat) : Int) - 1) = ((A.length + p : Nat) : Int) := by rw [sub1N (by simp <;> omega) (by simp <;> omega)]; simp <;> omega
     refine s_test ?_
     simp only [o_pure, o_nil, POp.ev, Opd.ev, gv, setD, xsj, xel, binV, ne_eq, xnt, if_false, hw]
     refine Test.split (fun hlt2 => ?_) (fun hlt2 => ?_)
     · have hlt3 : Ra.length < p := by simp at hlt2; omega
       obtain ⟨y, Rc, rfl⟩ : ∃ y Rc, Rb = y :: Rc := by
         cases Rb with
         | nil => simp at hRab; omega
         | cons y Rc => exact ⟨y, Rc, rfl⟩
       simp only [List.length_cons] at hk2 hRab
       obtain ⟨⟨j1, a1⟩, ⟨j2, a2⟩, H1, H2, t1, t2, hv3, hc3, hn3⟩ := VecT.swap2 (lim := lim) (A := A ++ Ra) (B := []) (by simpa using hv2) hl
       have i1 : (A ++ Ra).length = A.length + Ra.length := by simp
       rw [i1] at j1 a1 t1 j2 a2 t2
       simp only [List.length_nil, Nat.add_zero] at j2 a2 t2
       refine s_skip1 ?_
       simp +decide only [pqn]
       refine s_block ?_
       refine s_reg1 ?_
       simp only [o_pure, o_eff, o_nil, POp.ev, Opd.ev, EOp.ev, gv, setD, xsj, xel, binV, ne_eq, xnt, if_false, add1 (i := A.length + Ra.length) (by omega), j1, a1.all, j2, a2.all, t1, t2]
       simp +decide only [pqn, pbn]
       refine s_reg1 ?_
       simp only [o_pure, o_nil, POp.ev, Opd.ev, gv, setD, List.set, xsj, xel, binV, ne_eq, xnt, if_false, add1 (i := A.length + Ra.length) (by omega)]
       simp +decide only [pqn]
       refine Round.mk (k - 1) (by omega) ⟨Ra ++ [y], Rc, by simp, by omega, by simpa using hv3, hc2.trans hc3, by simp [Nat.add_assoc]⟩
     · have hRb : Rb = [] := List.length_eq_zero_iff.1 (by simp at hlt2; omega)
       subst hRb
       refine s_exit1 ?_
       simp +decide only [pqn, pqe, pbe, reduceIte]
       refine s_ret1 ?_
       simp +decide only [pqr, pfr, resV, resL, xsj, xel, xms]
       exact ⟨by simpa using hv2, hc2⟩
 have dL1 : ((L.length : Int) == 1) = false := by simp; omega
 rw [dL1]
 refine Test.false_ (s_skip1 ?_)
 simp +decide only [pqn]
 refine s_test ?_
 simp only [o_pure, o_nil, POp.ev, Opd.ev, gv, setD, xsj, xel, binV, ne_eq, xnt, if_false, w1]
 by_cases hR1 : R.length = 1
 · obtain ⟨y, rfl⟩ : ∃ y, R = [y] := List.length_eq_one_iff.1 hR1
   refine Test.true_ ?_
   refine s_reg ?_
   simp only [o_pure, o_nil, POp.ev, Opd.ev, gv, setD, List.set, xsj, xel]
   refine s_reg ?_
   simp only [o_pure, o_nil, POp.ev, Opd.ev, gv, setD, List.set, xsj, xel]
   refine s_block ?_
   refine s_loop1 (fun k e' H' => ∃ (p q : Nat) (x7 : Value), p ≤ q ∧ q ≤ L.length ∧ q - p = k ∧ (p = 0 ∨ ∃ h : p - 1 < L.length, ¬ ordT y L[p - 1] < 0) ∧ (q = L.length ∨ ∃ h : q < L.length, ordT y L[q] < 0) ∧ Ext H H' ∧
     e' = [s, .int .i64 A.length, .int .i64 ((A.length + L.length : Nat) : Int), .int .i64 ((A.length + L.length + [y].length : Nat) : Int), cmpF, undef, undef, undef, undef, .int .i64 ((A.length + p : Nat) : Int), .int .i64 ((A.length + q : Nat) : Int), x7, undef, undef, undef, undef, undef, undef, undef, undef]) L.length ⟨0, L.length, _, by omega, by omega, by omega, .inl rfl, .inl rfl, Ext.refl _, rfl⟩ ?_
   rintro k e' H' ⟨p, q, x7, hpq, hqR, hk, hp, hq, hx, rfl⟩
   refine s_test ?_
   simp only [o_pure, o_nil, POp.ev, Opd.ev, gv, setD, xsj, xel, binV, ne_eq, xnt, if_false]
   refine Test.split (fun hlt => ?_) (fun hlt => ?_)
   · have hlt' : p < q := by simp at hlt; omega
     refine s_skip1 ?_
     simp +decide only [pqn]
     refine s_block1 ?_
     refine s_reg ?_
     simp only [o_pure, o_nil, POp.ev, Opd.ev, gv, setD, List.set, xsj, xel, binV, convV, ne_eq, xnt, if_false, half_ok (i := A.length + p) (j := A.length + q) (by omega), if_neg e10, mid_ok (n := A.length + p + (A.length + q)) (m := A.length + (p + q) / 2) (by omega) (by omega)]
     have hmq : (p + q) / 2 < q := by omega
     have hpm : p ≤ (p + q) / 2 := by omega
     generalize (p + q) / 2 = c at hmq hpm ⊢
     have hcL : c < L.length := Nat.lt_of_lt_of_le hmq hqR
     have hv := VecT.ext hs hx
     obtain ⟨j1, a1⟩ := VecT.at (show VecT H' blk s ((A ++ L) ++ y :: B) by simpa using hv) (i := A.length + L.length) (by simp)
     rw [get_mid (by simp)] at a1
     obtain ⟨j2, a2⟩ := VecT.at (show VecT H' blk s (A ++ L ++ ([y] ++ B)) by simpa using hv) (i := A.length + c) (by simp; omega)
     have g1 : (A ++ L ++ ([y] ++ B))[A.length + c]'(by simp; omega) = L[c] := by
       rw [List.getElem_append_left (by simp; omega), List.getElem_append_right (by simp)]
       congr 1
       simp
     rw [g1] at a2
     refine s_test1 ?_
     simp only [o_callT, callV_fn, o_pure, POp.ev, Opd.ev, gv, setD, List.map, xsj, xel, j1, a1.all, j2, a2.all]
     refine (compareTerms_ok _ _ _ _).mono ?_
     rintro _ H3 ⟨rfl, hx3⟩
     simp only [o_cont, o_pure, o_nil, POp.ev, Opd.ev, gv, setD, xsj, xel, binV, unV, ne_eq, xnt, if_false, cmpT_eq]
     refine Test.split (fun hg => ?_) (fun hg => ?_)
     · have hg' : ¬ ordT y L[c] < 0 := by simpa using hg
       refine s_reg1 ?_
       simp only [o_pure, o_nil, POp.ev, Opd.ev, gv, setD, List.set, xsj, xel, binV, ne_eq, xnt, if_false, add1 (i := A.length + c) (by omega)]
       simp +decide only [pqn, pbn]
       have hk1 : q - (c + 1) < k := hk ▸ Nat.sub_lt_sub_left hlt' (Nat.lt_succ_of_le hpm)
       have hc1 : c + 1 - 1 < L.length := hcL
       exact Round.mk (q - (c + 1)) hk1 ⟨c + 1, q, _, hmq, hqR, rfl, .inr ⟨hc1, by simpa using hg'⟩, hq, hx.trans hx3, rfl⟩
     · have hg' : ordT y L[c] < 0 := by simpa using hg
       refine s_reg1 ?_
       simp only [o_pure, o_nil, POp.ev, Opd.ev, gv, setD, List.set, xsj, xel]
       simp +decide only [pqn, pbn]
       have hk1 : c - p < k := hk ▸ Nat.sub_lt_sub_right hpm hmq
       exact Round.mk (c - p) hk1 ⟨p, c, _, hpm, Nat.le_of_lt hcL, rfl, hp, .inr ⟨hcL, hg'⟩, hx.trans hx3, rfl⟩
   · have hpq' : p = q := by simp at hlt; omega
     subst hpq'
     refine s_exit1 ?_
     simp +decide only [pqn, pqe, pbe, reduceIte]
     rw [merge_last hL hqR hp hq]
     have hRe : L = L.take p ++ L.drop p := (List.take_append_drop _ _).symm
     have hRl : (L.take p).length = p := by simp; omega
     have hRm : (L.take p).length + (L.drop p).length = L.length := by simp; omega
     have hv := VecT.ext hs hx
     have hc := Chg.of_ext (b := blk) hx
     generalize hR1e : L.take p = L1 at hRe hRl hRm ⊢
     generalize hR2e : L.drop p = L2 at hRe hRm ⊢
     refine s_assoc (s_reg ?_)
     simp only [o_pure, o_nil, POp.ev, Opd.ev, gv, setD, List.set, xsj, xel]
     refine s_block ?_
     refine s_loop1 (fun k e' H'' => ∃ (La Lb : List Tm), L2 = La ++ Lb ∧ La.length = k ∧ VecT H'' blk s (A ++ L1 ++ La ++ y :: (Lb ++ B)) ∧ Chg blk H H'' ∧
       e' = [s, .int .i64 A.length, .int .i64 ((A.length + L.length : Nat) : Int), .int .i64 ((A.length + L.length + [y].length : Nat) : Int), cmpF, undef, undef, undef, undef, .int .i64 ((A.length + p : Nat) : Int), .int .i64 ((A.length + p : Nat) : Int), x7, .int .i64 ((A.length + p + La.length : Nat) : Int), undef, undef, undef, undef, undef, undef, undef]) L2.length ⟨L2, [], by simp, rfl, by rw [hRe] at hv; simpa using hv, hc, by rw [show A.length + p + L2.length = A.length + L.length by omega]⟩ ?_
     rintro k e' H'' ⟨La, Lb, rfl, hk2, hv2, hc2, rfl⟩
     refine s_test ?_
     simp only [o_pure, o_nil, POp.ev, Opd.ev, gv, setD, xsj, xel, binV, ne_eq, xnt, if_false]
     refine Test.split (fun hlt2 => ?_) (fun hlt2 => ?_)
     · have hlt3 : 0 < La.length := by simp at hlt2; omega
       obtain ⟨La0, x, hLae⟩ : ∃ La0 x, La = La0 ++ [x] := by
         rcases List.eq_nil_or_concat La with rfl | ⟨Q, x, hQ⟩
         · simp at hlt3
         · exact ⟨Q, x, by rw [hQ, List.concat_eq_append]⟩
       subst hLae
       have hll : (La0 ++ [x]).length = La0.length + 1 := by simp
       have hv2' : VecT H'' blk s ((A ++ L1 ++ La0) ++ x :: y :: (Lb ++ B)) := by simpa using hv2
       obtain ⟨⟨j1, a1⟩, ⟨j2, a2⟩, _⟩ := VecT.swap2 (lim := lim) (A := A ++ L1 ++ La0) (B := []) (x := x) (y := y) (C := Lb ++ B) hv2' hl
       obtain ⟨H1, H2, t1, t2, hv3, hc3, hn3⟩ := VecT.swap (lim := lim) hv2' hl
       have i1 : (A ++ L1 ++ La0).length = A.length + p + La0.length := by simp [← hRl]; omega
       rw [i1] at j1 a1 t1 t2 j2 a2
       simp only [List.length_nil, Nat.add_zero] at j2 a2
       have i2 : A.length + p + (La0 ++ [x]).length = A.length + p + La0.length + 1 := by simp; omega
       have hw : IntKind.i64.wrap (((A.length + p + (La0 ++ [x]).length : Nat) : Int) - 1) = ((A.length + p + La0.length : Nat) : Int) := by
         have : (La0 ++ [x]).length ≤ L.length := by simp at hRm hll ⊢; omega
         rw [sub1N (by omega) (by omega)]; omega
       refine s_skip1 ?_
       simp +decide only [pqn]
       refine s_block ?_
       refine s_reg1 ?_
       rw [i2] at hw ⊢
       simp only [o_pure, o_eff, o_nil, POp.ev, Opd.ev, EOp.ev, gv, setD, xsj, xel, binV, ne_eq, xnt, if_false, hw, j1, a1.all, j2, a2.all, t1, t2]
       simp +decide only [pqn, pbn]
       refine s_reg1 ?_
       simp only [o_pure, o_nil, POp.ev, Opd.ev, gv, setD, List.set, xsj, xel, binV, ne_eq, xnt, if_false, hw]
       simp +decide only [pqn]
       refine Round.mk (k - 1) (by omega) ⟨La0, x :: Lb, by simp, by omega, by simpa using hv3, hc2.trans hc3, rfl⟩
     · have hRb : La = [] := List.length_eq_zero_iff.1 (by simp at hlt2; omega)
       subst hRb
       refine s_exit1 ?_
       simp +decide only [pqn, pqe, pbe, reduceIte]
       refine s_ret1 ?_
       simp +decide only [pqr, pfr, resV, resL, xsj, xel, xms]
       exact ⟨by simpa using hv2, hc2⟩
 have dR1 : ((R.length : Int) == 1) = false := by simp; omega
 rw [dR1]
 refine Test.false_ (s_skip1 ?_)
 simp +decide only [pqn]
 have hh1 : (L.length + R.length) / 2 ≤ L.length + R.length := by omega
 have hh2 : L.length + R.length ≤ 2 * ((L.length + R.length) / 2) + 1 := by omega
 have hh3 : 2 * ((L.length + R.length) / 2) ≤ L.length + R.length := by omega
 have hmid : (A.length + (A.length + L.length + R.length)) / 2 = A.length + (L.length + R.length) / 2 := by omega
 refine s_reg ?_
 simp only [o_pure, o_nil, POp.ev, Opd.ev, gv, setD, List.set, xsj, xel, binV, convV, ne_eq, xnt, if_false, half_ok (i := A.length) (j := A.length + L.length + R.length) (by omega), if_neg e10, mid_ok (n := A.length + (A.length + L.length + R.length)) (m := A.length + (L.length + R.length) / 2) (by omega) hmid]
 have hhN : (L.length + R.length) / 2 < N + 1 := by omega
 have hhp : 0 < (L.length + R.length) / 2 := by omega
 generalize (L.length + R.length) / 2 = h at hh1 hh2 hh3 hhN hhp ⊢
 refine s_reg ?_
 simp only [o_pure, o_nil, POp.ev, Opd.ev, gv, setD, List.set, xsj, xel, binV, ne_eq, xnt, if_false, half_ok (i := A.length + h) (j := A.length + L.length) (by omega)]
 refine s_reg ?_
 simp only [o_pure, o_nil, POp.ev, Opd.ev, setD, List.set, xsj, xel]
 refine s_cutI (fun e' H' => H' = H ∧ ∃ lo hi : Nat, lo ≤ hi ∧ hi ≤ L.length ∧ hi ≤ h ∧ h - lo ≤ R.length ∧ (lo = 0 ∨ h - lo = R.length) ∧ (hi = L.length ∨ hi = h) ∧
   e' = [s, .int .i64 A.length, .int .i64 ((A.length + L.length : Nat) : Int), .int .i64 ((A.length + L.length + R.length : Nat) : Int), cmpF, undef, undef, undef, undef, undef, undef, undef, undef, .int .i64 ((A.length + h : Nat) : Int), .int .i64 ((A.length + h + (A.length + L.length) : Nat) : Int), .int .i64 ((A.length + lo : Nat) : Int), .int .i64 ((A.length + hi : Nat) : Int), undef, undef, undef]) ?_ ?_
 · refine s_test1 ?_
   simp only [o_pure, o_nil, POp.ev, Opd.ev, gv, setD, xsj, xel, binV, ne_eq, xnt, if_false]
   refine Test.split (fun hg => ?_) (fun hg => ?_)
   · have hg' : h < L.length := by simp at hg; omega
     have ws : IntKind.i64.wrap (((A.length + h + (A.length + L.length) : Nat) : Int) - ((A.length + L.length + R.length : Nat) : Int)) = ((A.length + (h - R.length) : Nat) : Int) := by rw [subN (by omega) (by omega)]; omega
     refine s_reg ?_
     simp only [o_pure, o_nil, POp.ev, Opd.ev, gv, setD, List.set, xsj, xel, binV, ne_eq, xnt, if_false, ws]
     refine s_reg1 ?_
     simp only [o_pure, o_nil, POp.ev, Opd.ev, gv, setD, List.set, xsj, xel]
     simp +decide only [pqn]
     exact ⟨trivial, h - R.length, h, by omega, by omega, by omega, by omega, .inr (by omega), .inr rfl, rfl⟩
   · have hg' : L.length ≤ h := by simp at hg; omega
     refine s_reg ?_
     simp only [o_pure, o_nil, POp.ev, Opd.ev, gv, setD, List.set, xsj, xel]
     refine s_reg1 ?_
     simp only [o_pure, o_nil, POp.ev, Opd.ev, gv, setD, List.set, xsj, xel]
     simp +decide only [pqn]
     exact ⟨trivial, 0, L.length, by omega, by omega, by omega, by omega, .inl rfl, .inl rfl, rfl⟩
 rintro e' H' ⟨rfl, lo, hi, hlohi, hiL, hih, hloR, hlo, hhi, rfl⟩
 have wp : IntKind.i64.wrap (((A.length + h + (A.length + L.length) : Nat) : Int) - 1) = ((A.length + h + (A.length + L.length) - 1 : Nat) : Int) := sub1N (by omega) (by omega)
 refine s_reg ?_
 simp only [o_pure, o_nil, POp.ev, Opd.ev, gv, setD, List.set, xsj, xel, binV, ne_eq, xnt, if_false, wp]
 refine s_block ?_
 refine s_loop1 (fun k e' H1 => ∃ (p q : Nat) (x18 : Value), lo ≤ p ∧ p ≤ q ∧ q ≤ hi ∧ q - p = k ∧ (p = lo ∨ ∃ (h1 : p - 1 < L.length) (h2 : h - p < R.length), ¬ ordT R[h - p] L[p - 1] < 0) ∧ (q = hi ∨ ∃ (h1 : q < L.length) (h2 : h - 1 - q < R.length), ordT R[h - 1 - q] L[q] < 0) ∧ Ext H' H1 ∧
   e' = [s, .int .i64 A.length, .int .i64 ((A.length + L.length : Nat) : Int), .int .i64 ((A.length + L.length + R.length : Nat) : Int), cmpF, undef, undef, undef, undef, undef, undef, undef, undef, .int .i64 ((A.length + h : Nat) : Int), .int .i64 ((A.length + h + (A.length + L.length) : Nat) : Int), .int .i64 ((A.length + p : Nat) : Int), .int .i64 ((A.length + q : Nat) : Int), .int .i64 ((A.length + h + (A.length + L.length) - 1 : Nat) : Int), x18, undef]) (hi - lo) ⟨lo, hi, _, by omega, by omega, by omega, rfl, .inl rfl, .inl rfl, Ext.refl _, rfl⟩ ?_
 rintro k e' H1 ⟨p, q, x18, hlp, hpq, hqh, hk, hp, hq, hx, rfl⟩
 refine s_test ?_
 simp only [o_pure, o_nil, POp.ev, Opd.ev, gv, setD, xsj, xel, binV, ne_eq, xnt, if_false]
 refine Test.split (fun hlt => ?_) (fun hlt => ?_)
 · have hlt' : p < q := by simp at hlt; omega
   refine s_skip1 ?_
   simp +decide only [pqn]
   refine s_block1 ?_
   refine s_reg ?_
   simp only [o_pure, o_nil, POp.ev, Opd.ev, gv, setD, List.set, xsj, xel, binV, convV, ne_eq, xnt, if_false, half_ok (i := A.length + p) (j := A.length + q) (by omega), if_neg e10, mid_ok (n := A.length + p + (A.length + q)) (m := A.length + (p + q) / 2) (by omega) (by omega)]
   have hmq : (p + q) / 2 < q := by omega
   have hpm : p ≤ (p + q) / 2 := by omega
   generalize (p + q) / 2 = c at hmq hpm ⊢
   have hcL : c < L.length := by clear hp hq; omega
   have hcR : h - 1 - c < R.length := by clear hp hq; omega
   have hcR2 : h - (c + 1) < R.length := by clear hp hq; omega
   have hwc : IntKind.i64.wrap (((A.length + h + (A.length + L.length) - 1 : Nat) : Int) - ((A.length + c : Nat) : Int)) = ((A.length + L.length + (h - 1 - c) : Nat) : Int) := by clear hp hq; rw [subN (by omega) (by omega)]; omega
   have hv := VecT.ext hs hx
   obtain ⟨j1, a1⟩ := VecT.at (show VecT H1 blk s ((A ++ L) ++ R ++ B) by simpa using hv) (i := A.length + L.length + (h - 1 - c)) (by clear hp hq; simp; omega)
   have g1 : ((A ++ L) ++ R ++ B)[A.length + L.length + (h - 1 - c)]'(by clear hp hq; simp; omega) = R[h - 1 - c] := by
     rw [List.getElem_append_left (by clear hp hq; simp; omega), List.getElem_append_right (by simp)]
     congr 1
     simp
   rw [g1] at a1
   obtain ⟨j2, a2⟩ := VecT.at (show VecT H1 blk s (A ++ L ++ (R ++ B)) by simpa using hv) (i := A.length + c) (by clear hp hq; simp; omega)
   have g2 : (A ++ L ++ (R ++ B))[A.length + c]'(by clear hp hq; simp; omega) = L[c] := by
     rw [List.getElem_append_left (by clear hp hq; simp; omega), List.getElem_append_right (by simp)]
     congr 1
     simp
   rw [g2] at a2
   refine s_test1 ?_
   simp only [o_callT, callV_fn, o_pure, POp.ev, Opd.ev, gv, setD, List.map, xsj, xel, binV, ne_eq, xnt, if_false, hwc, j1, a1.all, j2, a2.all]
   refine (compareTerms_ok _ _ _ _).mono ?_
   rintro _ H3 ⟨rfl, hx3⟩
   simp only [o_cont, o_pure, o_nil, POp.ev, Opd.ev, gv, setD, xsj, xel, binV, unV, ne_eq, xnt, if_false, cmpT_eq]
   refine Test.split (fun hg => ?_) (fun hg => ?_)
   · have hg' : ¬ ordT R[h - 1 - c] L[c] < 0 := by simpa using hg
     refine s_reg1 ?_
     simp only [o_pure, o_nil, POp.ev, Opd.ev, gv, setD, List.set, xsj, xel, binV, ne_eq, xnt, if_false, add1 (i := A.length + c) (by clear hp hq hg'; omega)]
     simp +decide only [pqn, pbn]
     have hk1 : q - (c + 1) < k := hk ▸ Nat.sub_lt_sub_left hlt' (Nat.lt_succ_of_le hpm)
     have hc1 : c + 1 - 1 < L.length := hcL
     have he : h - (c + 1) = h - 1 - c := by clear hp hq hg'; omega
     exact Round.mk (q - (c + 1)) hk1 ⟨c + 1, q, _, Nat.le_succ_of_le (Nat.le_trans hlp hpm), hmq, hqh, rfl, .inr ⟨hc1, hcR2, by simpa [he] using hg'⟩, hq, hx.trans hx3, rfl⟩
   · have hg' : ordT R[h - 1 - c] L[c] < 0 := by simpa using hg
     refine s_reg1 ?_
     simp only [o_pure, o_nil, POp.ev, Opd.ev, gv, setD, List.set, xsj, xel]
     simp +decide only [pqn, pbn]
     have hk1 : c - p < k := hk ▸ Nat.sub_lt_sub_right hpm hmq
     exact Round.mk (c - p) hk1 ⟨p, c, _, hlp, hpm, Nat.le_trans (Nat.le_of_lt hmq) hqh, rfl, hp, .inr ⟨hcL, hcR, hg'⟩, hx.trans hx3, rfl⟩
 have hpq' : p = q := by simp at hlt; omega
 subst hpq'
 refine s_exit1 ?_
 simp +decide only [pqn, pqe, pbe, reduceIte]
 have hpL : p ≤ L.length := Nat.le_trans hqh hiL
 have hph : p ≤ h := Nat.le_trans hqh hih
 have hjR : h - p ≤ R.length := by clear hp hq; omega
 have hwe : IntKind.i64.wrap (((A.length + h + (A.length + L.length) : Nat) : Int) - ((A.length + p : Nat) : Int)) = ((A.length + L.length + (h - p) : Nat) : Int) := by clear hp hq; rw [subN (by omega) (by omega)]; omega
 have c1 : ∀ l ∈ L.take p, ∀ r ∈ R.drop (h - p), leT l r := bnd_le hL hR hpL (by
   intro k1 k2
   rcases hp with hp | ⟨g1, g2, hp⟩
   · rcases hlo with hlo | hlo
     · omega
     · subst hp; omega
   · exact hp)
 have c2 : ∀ r ∈ R.take (h - p), ∀ l ∈ L.drop p, ordT r l < 0 := bnd_lt hL hR hjR (by
   intro k1 k2
   rcases hq with hq | ⟨g1, g2, hq⟩
   · rcases hhi with hhi | hhi
     · subst hq; omega
     · subst hq; omega
   · have he : h - p - 1 = h - 1 - p := by omega
     simpa [he] using hq)
 have hmer := mergeF_split (L.take p) (R.take (h - p)) (L.drop p) (R.drop (h - p)) c1 c2
 rw [List.take_append_drop, List.take_append_drop] at hmer
 rw [hmer]
 have hLe : L = L.take p ++ L.drop p := (List.take_append_drop _ _).symm
 have hRe : R = R.take (h - p) ++ R.drop (h - p) := (List.take_append_drop _ _).symm
 have s1 := ws_take hL p
 have s2 := ws_drop hL p
 have s3 := ws_take hR (h - p)
 have s4 := ws_drop hR (h - p)
 have n1 : (L.take p).length = p := by simp; omega
 have n2 : (L.drop p).length = L.length - p := by simp
 have n3 : (R.take (h - p)).length = h - p := by simp; omega
 have n4 : (R.drop (h - p)).length = R.length - (h - p) := by simp
 have hv : VecT H1 blk s (A ++ (L.take p ++ L.drop p) ++ (R.take (h - p) ++ R.drop (h - p)) ++ B) := by rw [List.take_append_drop, List.take_append_drop]; exact VecT.ext hs hx
 have hc := Chg.of_ext (b := blk) hx
 have hnx := hx.next
 clear hp hq hmer c1 c2 hLe hRe hlo hhi
 generalize hl1 : L.take p = L1 at s1 n1 hv ⊢
 generalize hl2 : L.drop p = L2 at s2 n2 hv ⊢
 generalize hr1 : R.take (h - p) = R1 at s3 n3 hv ⊢
 generalize hr2 : R.drop (h - p) = R2 at s4 n4 hv ⊢
 refine s_reg ?_
 simp only [o_pure, o_nil, POp.ev, Opd.ev, gv, setD, List.set, xsj, xel, binV, ne_eq, xnt, if_false, hwe]
 refine s_cutI (fun e' H2 => VecT H2 blk s (A ++ L1 ++ R1 ++ L2 ++ R2 ++ B) ∧ Chg blk H' H2 ∧ e' = [s, .int .i64 A.length, .int .i64 ((A.length + L.length : Nat) : Int), .int .i64 ((A.length + L.length + R.length : Nat) : Int), cmpF, undef, undef, undef, undef, undef, undef, undef, undef, .int .i64 ((A.length + h : Nat) : Int), .int .i64 ((A.length + h + (A.length + L.length) : Nat) : Int), .int .i64 ((A.length + p : Nat) : Int), .int .i64 ((A.length + p : Nat) : Int), .int .i64 ((A.length + h + (A.length + L.length) - 1 : Nat) : Int), x18, .int .i64 ((A.length + L.length + (h - p) : Nat) : Int)]) ?_ ?_
 · refine s_test1 ?_
   by_cases g1 : p < L.length
   · have d1 : decide (((A.length + p : Nat) : Int) < ((A.length + L.length : Nat) : Int)) = true := decide_eq_true (by omega)
     simp only [o_pure, o_guard, gk_tt, o_nil, POp.ev, Opd.ev, gv, setD, xsj, xel, pickV, binV, ne_eq, xnt, if_false, d1]
     by_cases g2 : 0 < h - p
     · have d2 : decide (((A.length + L.length : Nat) : Int) < ((A.length + L.length + (h - p) : Nat) : Int)) = true := decide_eq_true (by omega)
       simp only [d2]
       refine Test.true_ (s_reg1 ?_)
       simp only [o_pure, o_callF, POp.ev, Opd.ev, gv, setD, List.map, xsj, xel]
       have hcall := rotate_ok lim s blk (A ++ L1) L2 R1 (R2 ++ B) H1 (by simpa using hv) hl (by simp; omega) (by intro e; rw [e] at n2; simp at n2; omega) (by intro e; rw [e] at n3; simp at n3; omega)
         (a := ((A.length + p : Nat) : Int)) (m := ((A.length + L.length : Nat) : Int)) (b := ((A.length + L.length + (h - p) : Nat) : Int)) (by simp; omega) (by simp; omega) (by simp; omega)
       refine hcall.mono ?_
       rintro _ H2 ⟨hv2, hc2⟩
       simp only [o_cont, o_nil, setD]
       simp +decide only [pqn]
       exact ⟨by simpa using hv2, hc.trans hc2, trivial⟩
     · have d2 : decide (((A.length + L.length : Nat) : Int) < ((A.length + L.length + (h - p) : Nat) : Int)) = false := decide_eq_false (by omega)
       have hR0 : R1 = [] := List.length_eq_zero_iff.1 (by omega)
       simp only [d2]
       refine Test.false_ (s_skip1 ?_)
       simp +decide only [pqn]
       subst hR0
       exact ⟨by simpa using hv, hc, trivial⟩
   · have d1 : decide (((A.length + p : Nat) : Int) < ((A.length + L.length : Nat) : Int)) = false := decide_eq_false (by omega)
     have hL2 : L2 = [] := List.length_eq_zero_iff.1 (by omega)
     simp only [o_pure, o_guard, gk_ft, o_nil, POp.ev, Opd.ev, gv, setD, xsj, xel, pickV, binV, ne_eq, xnt, if_false, d1]
     refine Test.false_ (s_skip1 ?_)
     simp +decide only [pqn]
     subst hL2
     exact ⟨by simpa using hv, hc, trivial⟩
 rintro e' H2 ⟨hv2, hc2, rfl⟩
 have hn2 := hc2.next
 refine s_cutI (fun e' H3 => VecT H3 blk s (A ++ mergeF L1 R1 ++ L2 ++ R2 ++ B) ∧ Chg blk H' H3 ∧ e' = [s, .int .i64 A.length, .int .i64 ((A.length + L.length : Nat) : Int), .int .i64 ((A.length + L.length + R.length : Nat) : Int), cmpF, undef, undef, undef, undef, undef, undef, undef, undef, .int .i64 ((A.length + h : Nat) : Int), .int .i64 ((A.length + h + (A.length + L.length) : Nat) : Int), .int .i64 ((A.length + p : Nat) : Int), .int .i64 ((A.length + p : Nat) : Int), .int .i64 ((A.length + h + (A.length + L.length) - 1 : Nat) : Int), x18, .int .i64 ((A.length + L.length + (h - p) : Nat) : Int)]) ?_ ?_
 · refine s_test1 ?_
   by_cases g1 : 0 < p
   · have d1 : decide ((A.length : Int) < ((A.length + p : Nat) : Int)) = true := decide_eq_true (by omega)
     simp only [o_pure, o_guard, gk_tt, o_nil, POp.ev, Opd.ev, gv, setD, xsj, xel, pickV, binV, ne_eq, xnt, if_false, d1]
     by_cases g2 : p < h
     · have d2 : decide (((A.length + p : Nat) : Int) < ((A.length + h : Nat) : Int)) = true := decide_eq_true (by omega)
       simp only [d2]
       refine Test.true_ (s_reg1 ?_)
       simp only [o_pure, o_callF, POp.ev, Opd.ev, gv, setD, List.map, xsj, xel]
       have hcall := ih A L1 R1 (L2 ++ R2 ++ B) H2 (by omega) (by simpa using hv2) (by omega) s1 s3 (by intro e; rw [e] at n1; simp at n1; omega) (by intro e; rw [e] at n3; simp at n3; omega) (by omega)
         (a := (A.length : Int)) (m := ((A.length + p : Nat) : Int)) (b := ((A.length + h : Nat) : Int)) rfl (by omega) (by omega)
       refine hcall.mono ?_
       rintro _ H3 ⟨hv3, hc3⟩
       simp only [o_cont, o_nil, setD]
       simp +decide only [pqn]
       exact ⟨by simpa using hv3, hc2.trans hc3, trivial⟩
     · have d2 : decide (((A.length + p : Nat) : Int) < ((A.length + h : Nat) : Int)) = false := decide_eq_false (by omega)
       have hR0 : R1 = [] := List.length_eq_zero_iff.1 (by omega)
       simp only [d2]
       refine Test.false_ (s_skip1 ?_)
       simp +decide only [pqn]
       subst hR0
       exact ⟨by simpa [mergeF_nil] using hv2, hc2, trivial⟩
   · have d1 : decide ((A.length : Int) < ((A.length + p : Nat) : Int)) = false := decide_eq_false (by omega)
     have hL2 : L1 = [] := List.length_eq_zero_iff.1 (by omega)
     simp only [o_pure, o_guard, gk_ft, o_nil, POp.ev, Opd.ev, gv, setD, xsj, xel, pickV, binV, ne_eq, xnt, if_false, d1]
     refine Test.false_ (s_skip1 ?_)
     simp +decide only [pqn]
     subst hL2
     exact ⟨by simpa [mergeF_nil_l] using hv2, hc2, trivial⟩
 rintro e' H3 ⟨hv3, hc3, rfl⟩
 have hn3 := hc3.next
 have hml := mergeF_length L1 R1
 refine s_test1 ?_
 by_cases g1 : p < L.length
 · have d1 : decide (((A.length + h : Nat) : Int) < ((A.length + L.length + (h - p) : Nat) : Int)) = true := decide_eq_true (by omega)
   simp only [o_pure, o_guard, gk_tt, o_nil, POp.ev, Opd.ev, gv, setD, xsj, xel, pickV, binV, ne_eq, xnt, if_false, d1]
   by_cases g2 : h - p < R.length
   · have d2 : decide (((A.length + L.length + (h - p) : Nat) : Int) < ((A.length + L.length + R.length : Nat) : Int)) = true := decide_eq_true (by omega)
     simp only [d2]
     refine Test.true_ (s_reg1 ?_)
     simp only [o_pure, o_callF, POp.ev, Opd.ev, gv, setD, List.map, xsj, xel]
     have hcall := ih (A ++ mergeF L1 R1) L2 R2 B H3 (by omega) (by simpa using hv3) (by omega) s2 s4 (by intro e; rw [e] at n2; simp at n2; omega) (by intro e; rw [e] at n4; simp at n4; omega) (by simp; omega)
       (a := ((A.length + h : Nat) : Int)) (m := ((A.length + L.length + (h - p) : Nat) : Int)) (b := ((A.length + L.length + R.length : Nat) : Int)) (by simp; omega) (by simp; omega) (by simp; omega)
     refine hcall.mono ?_
     rintro _ H4 ⟨hv4, hc4⟩
     simp only [o_cont, o_nil, setD]
     simp +decide only [p_fin_normal, resV, resL, xsj, xel, xms]
     exact ⟨by simpa using hv4, hc3.trans hc4⟩
   · have d2 : decide (((A.length + L.length + (h - p) : Nat) : Int) < ((A.length + L.length + R.length : Nat) : Int)) = false := decide_eq_false (by omega)
     have hR0 : R2 = [] := List.length_eq_zero_iff.1 (by omega)
     simp only [d2]
     refine Test.false_ (s_skip1 ?_)
     simp +decide only [p_fin_normal, resV, resL, xsj, xel, xms]
     subst hR0
     exact ⟨by simpa [mergeF_nil] using hv3, hc3⟩
 · have hL2 : L2 = [] := List.length_eq_zero_iff.1 (by omega)
   have d1 : decide (((A.length + h : Nat) : Int) < ((A.length + L.length + (h - p) : Nat) : Int)) = false := decide_eq_false (by omega)
   simp only [o_pure, o_guard, gk_ft, o_nil, POp.ev, Opd.ev, gv, setD, xsj, xel, pickV, binV, ne_eq, xnt, if_false, d1]
   refine Test.false_ (s_skip1 ?_)
   simp +decide only [p_fin_normal, resV, resL, xsj, xel, xms]
   subst hL2
   exact ⟨by simpa [mergeF_nil_l] using hv3, hc3⟩
theorem mul2N {i : Nat} (h : i < 1000000000) : IntKind.i64.wrap (2 * (i : Int)) = ((2 * i : Nat) : Int) := by rw [IntKind.wrap_i64]; omega
theorem mulN2 {i : Nat} (h : i < 1000000000) : IntKind.i64.wrap ((i : Int) * 2) = ((2 * i : Nat) : Int) := by rw [IntKind.wrap_i64]; omega
theorem stableG_ok (lim : Nat) (s : Value) (blk : Nat) (l : List Tm) (H : AHeap) (hs : VecT H blk s l) (hl : lim ≤ blk) (hb : blk < H.next ∨ l = []) (hn : l.length ≤ 10000) :
   ACalls Tryz.prog lim n_slices_stableCmpFunc_impl_Term [s, .int .i64 l.length, cmpF] H fun v H' => VecT H' blk s (isortF [] l) ∧ Chg blk H H' := by
 refine is_slices_stableCmpFunc_impl_Term.go rfl ?_
 unfold c_slices_stableCmpFunc_impl_Term
 refine s_reg ?_
 simp only [o_pure, o_nil, POp.ev, Opd.ev, env0, gu, setD, List.set, xsj, xel]
 refine s_assoc (s_reg ?_)
 simp only [o_pure, o_nil, POp.ev, Opd.ev, gv, setD, List.set, xsj, xel]
 refine s_block ?_
 refine s_loop1 (fun k e' H' => ∃ (a : Nat) (D R : List Tm) (x6 : Value), D.length = a ∧ a + R.length = l.length ∧ R.length = k ∧ VecT H' blk s (D ++ R) ∧ (∀ d, Blk 20 R d → Blk 20 l (D ++ d)) ∧ Chg blk H H' ∧ e' = [s, .int .i64 l.length, cmpF, .int .i64 20, .int .i64 a, .int .i64 ((a + 20 : Nat) : Int), x6]) l.length ⟨0, [], l, _, rfl, by omega, rfl, hs, fun d hd => hd, Chg.refl _ _, rfl⟩ ?_
 rintro k e' H' ⟨a, D, R, x6, hD, haR, hk, hv, hB, hc, rfl⟩
 have hnc := hc.next
 refine s_test ?_
 simp only [o_pure, o_nil, POp.ev, Opd.ev, gv, setD, xsj, xel, binV, ne_eq, xnt, if_false]
 refine Test.split (fun hlt => ?_) (fun hlt => ?_)
 · have hlt' : 20 ≤ R.length := by simp at hlt; omega
   obtain ⟨R1, R2, rfl, hR1⟩ : ∃ R1 R2, R = R1 ++ R2 ∧ R1.length = 20 := ⟨R.take 20, R.drop 20, (List.take_append_drop _ _).symm, by simp; omega⟩
   simp only [List.length_append] at haR hk hlt'
   have hbl : blk < H'.next := by
     rcases hb with hb | hb
     · omega
     · subst hb; rw [List.length_nil] at haR; omega
   refine s_skip1 ?_
   simp +decide only [pqn]
   refine s_block1 ?_
   refine s_reg ?_
   simp only [o_pure, o_callF, POp.ev, Opd.ev, gv, setD, List.map, xsj, xel]
   have hcall := insSort2_ok lim s blk D R1 R2 H' (by simpa using hv) hl (.inl hbl) (by simp; omega)
   rw [hR1, hD] at hcall
   refine hcall.mono ?_
   rintro _ H2 ⟨hv2, hc2⟩
   simp only [o_cont, o_nil, setD]
   refine s_reg ?_
   simp only [o_pure, o_nil, POp.ev, Opd.ev, gv, setD, List.set, xsj, xel]
   refine s_reg1 ?_
   have w : IntKind.i64.wrap (((a + 20 : Nat) : Int) + 20) = ((a + 20 + 20 : Nat) : Int) := by rw [IntKind.wrap_i64]; omega
   simp only [o_pure, o_nil, POp.ev, Opd.ev, gv, setD, List.set, xsj, xel, binV, ne_eq, xnt, if_false, w]
   simp +decide only [pqn, pbn]
   refine Round.mk R2.length (by omega) ⟨a + 20, D ++ isortF [] R1, R2, _, by simp [isort_length]; omega, by omega, rfl, by simpa using hv2, fun d hd => ?_, hc.trans hc2, rfl⟩
   rw [List.append_assoc]
   exact hB _ (Blk.step hR1 hd)
 have hlt' : R.length < 20 := by simp at hlt; omega
 refine s_exit1 ?_
 simp +decide only [pqn, pqe, pbe, reduceIte]
 refine s_reg ?_
 simp only [o_pure, o_callF, POp.ev, Opd.ev, gv, setD, List.map, xsj, xel]
 have hcall := insSort2_ok lim s blk D R [] H' (by simpa using hv) hl (by
   rcases hb with hb | hb
   · exact .inl (by omega)
   · subst hb
     simp at haR
     exact .inr haR.2) (by simp; omega)
 rw [hD, haR] at hcall
 refine hcall.mono ?_
 rintro _ H2 ⟨hv2, hc2⟩
 replace hv2 : VecT H2 blk s (D ++ isortF [] R) := by simpa using hv2
 have hBl := hB _ (Blk.last hlt')
 simp only [o_cont, o_nil, setD]
 refine s_block1 ?_
 have hc3 := hc.trans hc2
 clear hcall hv hc2 hc hB
 generalize D ++ isortF [] R = d0 at hv2 hBl
 refine s_loop1 (fun k e' H3 => ∃ (bs : Nat) (d : List Tm) (x4 x5 x6 : Value), 20 ≤ bs ∧ bs ≤ 20000 ∧ 20000 - bs = k ∧ VecT H3 blk s d ∧ Blk bs l d ∧ Chg blk H H3 ∧ e' = [s, .int .i64 l.length, cmpF, .int .i64 bs, x4, x5, x6]) 19980 ⟨20, d0, _, _, _, by omega, by omega, rfl, hv2, hBl, hc3, rfl⟩ ?_
 clear hv2 hBl hc3 hnc d0
 rintro k e' H3 ⟨bs, d, x4, x5, x6', hbs, hbs2, hk2, hv, hBl, hc, rfl⟩
 have hdl := hBl.len
 refine s_test ?_
 simp only [o_pure, o_nil, POp.ev, Opd.ev, gv, setD, xsj, xel, binV, ne_eq, xnt, if_false]
 refine Test.split (fun hlt2 => ?_) (fun hlt2 => ?_)
 · have hlt3 : bs < l.length := by simp at hlt2; omega
   have hbl : blk < H.next := by
     rcases hb with hb | hb
     · exact hb
     · subst hb; simp at hlt3
   refine s_skip1 ?_
   simp +decide only [pqn]
   refine s_block1 ?_
   refine s_reg ?_
   simp only [o_pure, o_nil, POp.ev, Opd.ev, gv, setD, List.set, xsj, xel, binV, ne_eq, xnt, if_false, mul2N (i := bs) (by omega)]
   refine s_block ?_
   refine s_loop1 (fun k e' H4 => ∃ (a : Nat) (D R dR : List Tm), D.length = a ∧ a + R.length = l.length ∧ R.length = k ∧ Blk bs R dR ∧ VecT H4 blk s (D ++ dR) ∧ (∀ d, Blk (2 * bs) R d → Blk (2 * bs) l (D ++ d)) ∧ Chg blk H H4 ∧ e' = [s, .int .i64 l.length, cmpF, .int .i64 bs, .int .i64 a, .int .i64 ((a + 2 * bs : Nat) : Int), x6']) l.length ⟨0, [], l, d, rfl, by omega, rfl, hBl, hv, fun d hd => hd, hc, by rw [Nat.zero_add]; rfl⟩ ?_
   clear hv hBl hc hdl
   rintro k2 e' H4 ⟨a, D, R, dR, hD, haR, hk3, hBR, hv, hB, hc, rfl⟩
   have hnc := hc.next
   refine s_test ?_
   simp only [o_pure, o_nil, POp.ev, Opd.ev, gv, setD, xsj, xel, binV, ne_eq, xnt, if_false]
   refine Test.split (fun hlt4 => ?_) (fun hlt4 => ?_)
   · have hlt5 : 2 * bs ≤ R.length := by simp at hlt4; omega
     obtain ⟨l1, r2, dr2, rfl, rfl, hl1, hBr2⟩ := hBR.cut (by omega)
     simp only [List.length_append] at haR hk3 hlt5
     obtain ⟨l2, r3, dr3, rfl, rfl, hl2, hBr3⟩ := hBr2.cut (by omega)
     simp only [List.length_append] at haR hk3 hlt5
     refine s_skip1 ?_
     simp +decide only [pqn]
     refine s_block1 ?_
     refine s_reg ?_
     simp only [o_pure, o_callF, POp.ev, Opd.ev, gv, setD, List.map, xsj, xel, binV, ne_eq, xnt, if_false, addN (i := a) (j := bs) (by omega)]
     have hcall := symMerge_ok lim s blk hl _ D (isortF [] l1) (isortF [] l2) dr3 H4 (Nat.le_refl _) (by simpa using hv) (by omega) (ws_isort _) (ws_isort _)
       (by intro e; have := congrArg List.length e; simp [isort_length] at this; simp [this] at hl1; omega)
       (by intro e; have := congrArg List.length e; simp [isort_length] at this; simp [this] at hl2; omega) (by simp [isort_length]; omega)
       (a := (a : Int)) (m := ((a + bs : Nat) : Int)) (b := ((a + 2 * bs : Nat) : Int)) (by rw [hD]) (by rw [hD, isort_length, hl1]) (by rw [hD, isort_length, isort_length, hl1, hl2]; omega)
     refine hcall.mono ?_
     rintro _ H5 ⟨hv5, hc5⟩
     rw [merge_isort] at hv5
     simp only [o_cont, o_nil, setD]
     refine s_reg ?_
     simp only [o_pure, o_nil, POp.ev, Opd.ev, gv, setD, List.set, xsj, xel]
     refine s_reg1 ?_
     simp only [o_pure, o_nil, POp.ev, Opd.ev, gv, setD, List.set, xsj, xel, binV, ne_eq, xnt, if_false, mul2N (i := bs) (by omega), addN (i := a + 2 * bs) (j := 2 * bs) (by omega)]
     simp +decide only [pqn, pbn]
     refine Round.mk r3.length (by omega) ⟨a + 2 * bs, D ++ isortF [] (l1 ++ l2), r3, dr3, by simp [isort_length]; omega, by omega, rfl, hBr3, hv5, fun d hd => ?_, hc.trans hc5, rfl⟩
     have hst := Blk.step (bs := 2 * bs) (l1 := l1 ++ l2) (by simp; omega) hd
     rw [List.append_assoc] at hst
     simpa using hB _ hst
   · have hlt5 : R.length < 2 * bs := by simp at hlt4; omega
     refine s_exit1 ?_
     simp +decide only [pqn, pqe, pbe, p_fin_normal, reduceIte, resV, resL, xsj, xel, xms]
     refine s_reg ?_
     simp only [o_pure, o_nil, POp.ev, Opd.ev, gv, setD, List.set, xsj, xel, binV, ne_eq, xnt, if_false, addN (i := a) (j := bs) (by omega)]
     refine s_cut1 (fun e' H5 => VecT H5 blk s (D ++ isortF [] R) ∧ Chg blk H H5 ∧ ∃ x4 x5 x6 : Value, e' = [s, .int .i64 l.length, cmpF, .int .i64 bs, x4, x5, x6]) ?_ ?_
     · refine s_test1 ?_
       simp only [o_pure, o_nil, POp.ev, Opd.ev, gv, setD, xsj, xel, binV, ne_eq, xnt, if_false]
       refine Test.split (fun hlt6 => ?_) (fun hlt6 => ?_)
       · have hlt7 : bs < R.length := by simp at hlt6; omega
         obtain ⟨l1, r2, dr2, rfl, rfl, hl1, hBr2⟩ := hBR.cut (by omega)
         simp only [List.length_append] at haR hk3 hlt5 hlt7
         have hd2 := hBr2.short (by omega)
         subst hd2
         refine s_reg1 ?_
         simp only [o_pure, o_callF, POp.ev, Opd.ev, gv, setD, List.map, xsj, xel]
         have hcall := symMerge_ok lim s blk hl _ D (isortF [] l1) (isortF [] r2) [] H4 (Nat.le_refl _) (by simpa using hv) (by omega) (ws_isort _) (ws_isort _)
           (by intro e; have := congrArg List.length e; simp [isort_length] at this; simp [this] at hl1; omega)
           (by intro e; have := congrArg List.length e; simp [isort_length] at this; simp [this] at hlt7; omega) (by simp [isort_length]; omega)
           (a := (a : Int)) (m := ((a + bs : Nat) : Int)) (b := (l.length : Int)) (by rw [hD]) (by rw [hD, isort_length, hl1]) (by rw [hD, isort_length, isort_length, hl1]; omega)
         refine hcall.mono ?_
         rintro _ H5 ⟨hv5, hc5⟩
         rw [merge_isort, List.append_nil] at hv5
         simp only [o_cont, o_nil, setD]
         simp +decide only [pqn]
         exact ⟨hv5, hc.trans hc5, _, _, _, rfl⟩
       · have hlt7 : R.length ≤ bs := by simp at hlt6; omega
         rw [hBR.done (by omega) hlt7] at hv
         refine s_skip1 ?_
         simp +decide only [pqn]
         exact ⟨hv, hc, _, _, _, rfl⟩
     rintro e' H5 ⟨hv5, hc5, x4, x5, x6, rfl⟩
     refine s_reg1 ?_
     simp only [o_pure, o_nil, POp.ev, Opd.ev, gv, setD, List.set, xsj, xel, binV, ne_eq, xnt, if_false, mulN2 (i := bs) (by omega)]
     simp +decide only [pqn, pbn]
     exact Round.mk (20000 - 2 * bs) (by omega) ⟨2 * bs, _, _, _, _, by omega, by omega, rfl, hv5, hB _ (Blk.last hlt5), hc5, rfl⟩
 · have hge : l.length ≤ bs := by simp at hlt2; omega
   refine s_exit1 ?_
   simp +decide only [pqe, pbe, p_fin_normal, reduceIte, resV, resL, xsj, xel, xms]
   rw [← hBl.done (by omega) hge]
   exact ⟨hv, hc⟩
theorem sortG_ok (lim : Nat) (s : Value) (b : Nat) (l : List Tm) (H : AHeap) (hs : VecT H b s l) (hl : lim ≤ b) (hb : b < H.next ∨ l = []) (hn : l.length ≤ 10000) :
   ACalls Tryz.prog lim n_slices_SortStableFunc_S_impl_Term_impl_Term [s, cmpF] H fun v H' => VecT H' b s (isortF [] l) ∧ Chg b H H' := by
 refine is_slices_SortStableFunc_S_impl_Term_impl_Term.go rfl ?_
 unfold c_slices_SortStableFunc_S_impl_Term_impl_Term
 refine s_reg1 ?_
 simp only [o_pure, o_callF, POp.ev, Opd.ev, env0, gu, gv, setD, List.map, xsj, xel, Vec.lenV hs]
 refine (stableG_ok lim s b l H hs hl hb hn).mono ?_
 rintro _ H2 h2
 simp only [o_cont, o_nil, setD]
 simp +decide only [p_fin_normal, resV, resL, xsj, xel, xms]
 exact h2
theorem s_cut0 {P : Program} {lim : Nat} {Q : Post} {e : List Value} {H : AHeap} {a : ACode} (I : List Value → AHeap → Prop) (h : awp P lim a (Post.seq I (fun _ _ _ => False)) e H) (h1 : ∀ e' H', I e' H' → Q .normal e' H') : awp P lim a Q e H := by
 refine awp.mono a ?_ h
 intro ex e H hp
 cases ex with
 | normal => exact h1 e H hp
 | _ => exact hp.elim
abbrev W (n : Int) : Int := IntKind.i64.wrap n
def mrgS (Q : List Tm) (o : Tm) : List Tm → List Tm
 | [] => Q ++ [o]
 | t :: l => if ordT o t = 0 then mrgS Q { o with c := W (o.c + t.c) } l else mrgS (Q ++ [o]) t l
def mrg : List Tm → List Tm
 | [] => []
 | t :: l => mrgS [] t l
def nzF (l : List Tm) : List Tm := l.filter fun t => !(t.c == 0)
def coll (l : List Tm) : List Tm := nzF (mrg (isortF [] l))
theorem mrgS_length : ∀ (l Q : List Tm) (o : Tm), (mrgS Q o l).length ≤ Q.length + 1 + l.length
 | [], Q, o => by simp [mrgS]
 | t :: l, Q, o => by
   unfold mrgS
   split
   · have := mrgS_length l Q { o with c := W (o.c + t.c) }; simp; omega
   · have := mrgS_length l (Q ++ [o]) t; simp at this; simp; omega
theorem mrg_length (l : List Tm) : (mrg l).length ≤ l.length := by
 cases l with
 | nil => simp [mrg]
 | cons t l => have := mrgS_length l [] t; simp [mrg] at this ⊢; omega
theorem coll_length (l : List Tm) : (coll l).length ≤ l.length := by
 have h1 := mrg_length (isortF [] l)
 rw [isort_length] at h1
 exact Nat.le_trans (List.length_filter_le _ _) h1
theorem VecT.cut {lim : Nat} {H : AHeap} {b : Nat} {v : Value} {l : List Tm} (h : VecT H b v l) (hl : lim ≤ b) {k : Nat} (hk : k ≤ l.length) :
   ∃ vd H' vk, slcV 4 v (some (.int .i64 k)) none none = some vd ∧ clearH lim H [.int .i64 0, .int .i64 0, .int .i64 0, .int .i64 0] vd = some (undef, H') ∧ slcV 4 v none (some (.int .i64 k)) none = some vk ∧ VecT H' b vk (l.take k) ∧ Chg b H H' := by
 have hlk : (l.take k).length = k := by simp; omega
 have e10 : ¬ ((k : Int) < 0) := by omega
 rcases h with ⟨rfl, h2, h3⟩ | ⟨c, sp, rest, rfl, hsp, hb, hblk, hcl, hc, hcr⟩
 · have hk0 : k = 0 := by omega
   subst hk0
   exact ⟨.slice none 0 0, H, .slice none 0 0, rfl, rfl, rfl, .inl ⟨rfl, by simp, by simp [tcs]⟩, Chg.refl _ _⟩
 · have hB : ∀ (x y : Nat), x ≤ y → sliceB (.int .i64 x) y = some x := by
     intro x y hxy
     simp [sliceB, intV, hxy]
   have hsp' : sp = some 0 ∨ sp = some 4 := hsp
   have s1 : slcV 4 (.slice (some ⟨b, 0, sp⟩) l.length c) (some (.int .i64 k)) none none = some (.slice (some ⟨b, 0 + k * 4, sp⟩) (l.length - k) (c - k)) := by
     simp only [slcV, bounds, hB k l.length hk, Option.bind_some, if_pos hsp', Option.isSome_none, Bool.false_eq_true, if_false]
   have s2 : slcV 4 (.slice (some ⟨b, 0, sp⟩) l.length c) none (some (.int .i64 k)) none = some (.slice (some ⟨b, 0, sp⟩) k c) := by
     simp only [slcV, bounds, hB k c (by omega), Option.bind_some, if_pos hsp', Option.isSome_none, Bool.false_eq_true, if_false, Nat.zero_mul, Nat.add_zero, Nat.sub_zero]
   have tl := tcs_length l
   have hdl : ∀ rest', tcs l ++ rest' = tcs (l.take k) ++ (tcs (l.drop k) ++ rest') := by
     intro rest'
     rw [← List.append_assoc, ← tcs_append, List.take_append_drop]
   have tk : (tcs (l.take k)).length = k * 4 := by rw [tcs_length, hlk]
   have td : (tcs (l.drop k)).length = (l.length - k) * 4 := by rw [tcs_length]; simp
   have vec : ∀ (H' : AHeap) (r : List Value), H'.next = H.next → H'.blk b = some (tcs (l.take k) ++ r) → r.length = (l.length - k) * 4 + rest.length → VecT H' b (.slice (some ⟨b, 0, sp⟩) k c) (l.take k) := by
     intro H' r hn hbk hr
     refine .inr ⟨c, sp, r, by rw [hlk], hsp, by omega, hbk, by rw [tcs_length], by rw [hlk]; omega, ?_⟩
     rw [hlk, hr]
     omega
   by_cases h0 : l.length - k = 0
   · refine ⟨_, H, _, s1, ?_, s2, vec H _ rfl (by rw [hblk, hdl]) (by simp [td]), Chg.refl _ _⟩
     simp [clearH, h0, undef]
   · refine ⟨_, _, _, s1, ?_, s2, vec (H.put b (putL (tcs l ++ rest) (0 + k * 4) (zerosL (l.length - k) [.int .i64 0, .int .i64 0, .int .i64 0, .int .i64 0]))) ((zerosL (l.length - k) [.int .i64 0, .int .i64 0, .int .i64 0, .int .i64 0]) ++ rest) rfl ?_ ?_, Chg.put _ _ _⟩
     · simp only [clearH, if_neg h0, if_pos hl, hblk, Option.bind_some]
       rw [if_pos]
       · rfl
       · simp [tl]; omega
     · rw [put_same]
       rw [hdl rest, Nat.zero_add, ← tk]
       congr 1
       unfold putL
       have zl : (zerosL (l.length - k) [Value.int .i64 0, .int .i64 0, .int .i64 0, .int .i64 0]).length = (tcs (l.drop k)).length := by rw [zerosL_length, td]; rfl
       rw [List.take_left, zl, List.drop_append, List.drop_of_length_le (by omega), List.nil_append, Nat.add_sub_cancel_left, List.drop_left, List.append_assoc]
     · rw [List.length_append, zerosL_length]
       rfl
def FirstZ (l : List Tm) (r : Int) : Prop := (r = -1 ∧ ∀ t ∈ l, t.c ≠ 0) ∨ ∃ i : Nat, r = (i : Int) ∧ i < l.length ∧ (∀ t ∈ l.take i, t.c ≠ 0) ∧ ∃ h : i < l.length, (l[i]'h).c = 0
theorem indexFuncG_ok (lim : Nat) (s : Value) (l : List Tm) (H : AHeap) (hs : SlT H s l) (hn : l.length ≤ 1000000) :
   ACalls Tryz.prog lim n_slices_IndexFunc_S_impl_Term_impl_Term [s, delF] H fun v H' => ∃ r, v = .int .i64 r ∧ FirstZ l r ∧ Ext H H' := by
 refine is_slices_IndexFunc_S_impl_Term_impl_Term.go rfl ?_
 unfold c_slices_IndexFunc_S_impl_Term_impl_Term
 refine s_reg ?_
 simp only [o_pure, o_nil, POp.ev, Opd.ev, env0, gu, setD, List.set, xsj, xel]
 refine s_assoc (s_reg ?_)
 simp only [o_pure, o_nil, POp.ev, Opd.ev, gv, setD, List.set, xsj, xel, hs.lenV]
 refine s_block ?_
 refine s_loop1 (fun k e' H' => ∃ (i : Nat) (x : Value), i + k = l.length ∧ (∀ t ∈ l.take i, t.c ≠ 0) ∧ Ext H H' ∧ e' = [s, delF, .int .i64 0, x, .int .i64 l.length, .int .i64 i]) l.length ⟨0, _, by omega, by simp, Ext.refl _, rfl⟩ ?_
 rintro k e' H' ⟨i, x, hik, hz, hx, rfl⟩
 refine s_test ?_
 simp only [o_pure, o_nil, POp.ev, Opd.ev, gv, setD, xsj, xel, binV, ne_eq, xnt, if_false]
 refine Test.split (fun hlt => ?_) (fun hlt => ?_)
 · have hlt' : i < l.length := by simpa using hlt
   obtain ⟨b1, o1, h1, a1⟩ := (hs.ext hx).at hlt'
   refine s_skip1 ?_
   simp +decide only [pqn]
   refine s_block ?_
   refine s_reg ?_
   simp only [o_pure, o_nil, POp.ev, Opd.ev, gv, setD, List.set, xsj, xel]
   refine s_test1 ?_
   simp only [o_callT, callV_fn, o_pure, POp.ev, Opd.ev, gv, setD, List.map, xsj, xel, h1, a1.all]
   refine (collect1_ok _ _ _).mono ?_
   rintro _ H2 ⟨rfl, hx2⟩
   simp only [o_cont, o_nil, gv, setD]
   refine Test.split (fun hg => ?_) (fun hg => ?_)
   · have hg' : (l[i]'hlt').c = 0 := by simpa using hg
     refine s_reg ?_
     simp only [o_pure, o_nil, POp.ev, Opd.ev, gv, setD, List.set, xsj, xel]
     refine s_ret1 ?_
     simp +decide only [pqr, pbr, pfr, resV, resOne, gv, xsj, xel]
     exact ⟨_, rfl, .inr ⟨i, rfl, hlt', hz, hlt', hg'⟩, hx.trans hx2⟩
   · have hg' : (l[i]'hlt').c ≠ 0 := by simpa using hg
     refine s_skip1 ?_
     simp +decide only [pqn, pbn]
     refine s_reg1 ?_
     simp only [o_pure, o_nil, POp.ev, Opd.ev, gv, setD, List.set, xsj, xel, binV, ne_eq, xnt, if_false, add1 (i := i) (by omega)]
     simp +decide only [pqn]
     refine Round.mk (k - 1) (by omega) ⟨i + 1, _, by omega, fun t ht => ?_, hx.trans hx2, rfl⟩
     rw [List.take_add_one, List.getElem?_eq_getElem hlt', Option.toList_some, List.mem_append] at ht
     rcases ht with ht | ht
     · exact hz t ht
     · rw [List.mem_singleton.1 ht]; exact hg'
 · have hge : i = l.length := by simp at hlt; omega
   subst hge
   refine s_exit1 ?_
   simp +decide only [pqn, pqe, pbe, reduceIte]
   refine s_reg ?_
   simp only [o_pure, o_nil, POp.ev, Opd.ev, setD, List.set, xsj, xel]
   refine s_ret1 ?_
   simp +decide only [pfr, resV, resOne, gv, xsj, xel]
   rw [List.take_length] at hz
   exact ⟨_, rfl, .inl ⟨rfl, hz⟩, hx⟩
theorem nzF_all {l : List Tm} (h : ∀ t ∈ l, t.c ≠ 0) : nzF l = l := List.filter_eq_self.2 fun t ht => by simpa using h t ht
theorem nzF_append (l m : List Tm) : nzF (l ++ m) = nzF l ++ nzF m := List.filter_append ..
theorem nzF_take_succ {l : List Tm} {j : Nat} (hj : j < l.length) : nzF (l.take (j + 1)) = nzF (l.take j) ++ if l[j].c = 0 then [] else [l[j]] := by
 rw [List.take_add_one, List.getElem?_eq_getElem hj, Option.toList_some, nzF_append]
 congr 1
 by_cases h : l[j].c = 0 <;> simp [nzF, h]
theorem deleteFuncG_ok (lim : Nat) (s : Value) (b : Nat) (l : List Tm) (H : AHeap) (hs : VecT H b s l) (hl : lim ≤ b) (hlim : lim ≤ H.next) (hb : b ≤ H.next) (hn : l.length ≤ 100000) :
   ACalls Tryz.prog lim n_slices_DeleteFunc_S_impl_Term_impl_Term [s, delF] H fun v H' => VecT H' b v (nzF l) ∧ Chg b H H' := by
 refine is_slices_DeleteFunc_S_impl_Term_impl_Term.go rfl ?_
 unfold c_slices_DeleteFunc_S_impl_Term_impl_Term
 refine s_reg ?_
 simp only [o_pure, o_nil, POp.ev, Opd.ev, env0, gu, setD, List.set, xsj, xel]
 refine s_reg ?_
 simp only [o_pure, o_callF, POp.ev, Opd.ev, gv, setD, List.map, xsj, xel]
 refine (indexFuncG_ok lim s l H (Vec.sl hs) (by omega)).mono ?_
 rintro _ H2 ⟨r, rfl, hf, hx2⟩
 simp only [o_cont, o_pure, o_nil, POp.ev, Opd.ev, gv, setD, List.set, xsj, xel]
 refine s_test ?_
 rcases hf with ⟨rfl, hz⟩ | ⟨i, rfl, hi, hz, hi', hzi⟩
 · have hd : ((-1 : Int) == -1) = true := by decide
   simp only [o_pure, o_nil, POp.ev, Opd.ev, gv, setD, xsj, xel, binV, ne_eq, xnt, if_false, beq_self_eq_true]
   refine Test.true_ (s_reg ?_)
   simp only [o_pure, o_nil, POp.ev, Opd.ev, gv, setD, List.set, xsj, xel]
   refine s_ret1 ?_
   simp +decide only [pqr, pfr, resV, resOne, gv, xsj, xel]
   rw [nzF_all hz]
   exact ⟨VecT.ext hs hx2, Chg.of_ext hx2⟩
 · have hd : ((i : Int) == -1) = false := by simp <;> omega
   simp only [o_pure, o_nil, POp.ev, Opd.ev, gv, setD, xsj, xel, binV, ne_eq, xnt, if_false, hd]
   refine Test.false_ (s_skip1 ?_)
   simp +decide only [pqn]
   refine s_assoc (s_reg ?_)
   simp only [o_pure, o_nil, POp.ev, Opd.ev, gv, setD, List.set, xsj, xel, binV, ne_eq, xnt, if_false, add1 (i := i) (by omega)]
   have hn2 := hx2.next
   refine s_block ?_
   refine s_loop1 (fun k e' H' => ∃ (j : Nat) (F G : List Tm) (x5 : Value), j + k = l.length ∧ F = nzF (l.take j) ∧ F.length + G.length = j ∧ G ≠ [] ∧ VecT H' b s (F ++ G ++ l.drop j) ∧ Chg b H H' ∧ e' = [s, delF, .slice none 0 0, .int .i64 F.length, .int .i64 j, x5]) (l.length - (i + 1))
     ⟨i + 1, l.take i, [l[i]], _, by omega, by rw [nzF_take_succ hi, if_pos hzi, List.append_nil, nzF_all hz], by simp; omega, by simp, ?_, Chg.of_ext hx2, by rw [List.length_take, Nat.min_eq_left (by omega)]⟩ ?_
   · have : l.take i ++ [l[i]] ++ l.drop (i + 1) = l := by rw [List.append_assoc, List.singleton_append, List.getElem_cons_drop, List.take_append_drop]
     rw [this]
     exact VecT.ext hs hx2
   rintro k e' H3 ⟨j, F, G, x5, hjk, hF, hFG, hG, hv, hc, rfl⟩
   have hnc := hc.next
   have hFj : F.length ≤ j := by omega
   have hvl : (F ++ G ++ l.drop j).length = l.length := by simp; omega
   refine s_test ?_
   have hlv := Vec.lenV hv
   rw [hvl] at hlv
   simp only [o_pure, o_nil, POp.ev, Opd.ev, gv, setD, xsj, xel, binV, ne_eq, xnt, if_false, hlv]
   refine Test.split (fun hlt => ?_) (fun hlt => ?_)
   · have hlt' : j < l.length := by simpa using hlt
     obtain ⟨j1, a1⟩ := VecT.at hv (i := j) (by omega)
     have g1 : (F ++ G ++ l.drop j)[j]'(by omega) = l[j] := by
       rw [List.getElem_append_right (by simp; omega), List.getElem_drop]
       congr 1
       simp; omega
     rw [g1] at a1
     refine s_skip1 ?_
     simp +decide only [pqn]
     refine s_block ?_
     refine s_reg ?_
     simp only [o_pure, o_eff, o_nil, POp.ev, Opd.ev, EOp.ev, gv, setD, List.set, xsj, xel, j1, a1.all, store4_new (lim := lim) (H := H3) (by omega)]
     have hB := BoxT.mk' H3 l[j]
     generalize H3.alloc (tc l[j]) = H4 at hB ⊢
     generalize H3.next = q at hB hnc ⊢
     replace hv := VecT.ext hv hB.ext
     replace hc := hc.trans (Chg.of_ext hB.ext)
     have hdj : l.drop j = l[j] :: l.drop (j + 1) := (List.getElem_cons_drop ..).symm
     obtain ⟨g, G', rfl⟩ : ∃ g G', G = g :: G' := by
       cases G with
       | nil => exact absurd rfl hG
       | cons g G' => exact ⟨g, G', rfl⟩
     simp only [List.length_cons] at hFG
     refine s_test1 ?_
     simp only [o_callT, callV_fn, o_pure, POp.ev, Opd.ev, gv, setD, List.map, xsj, xel, hB.all]
     refine (collect1_ok _ _ _).mono ?_
     rintro _ H5 ⟨rfl, hx5⟩
     replace hv := VecT.ext hv hx5
     replace hc := hc.trans (Chg.of_ext hx5)
     replace hB := hB.mono hx5
     simp only [o_cont, o_pure, o_nil, POp.ev, Opd.ev, gv, setD, xsj, xel, unV]
     have leave : ∀ (F2 G2 : List Tm) (H6 : AHeap), F2 = nzF (l.take (j + 1)) → F2.length + G2.length = j + 1 → G2 ≠ [] → VecT H6 b s (F2 ++ G2 ++ l.drop (j + 1)) → Chg b H H6 →
         Round (fun k e' H' => ∃ (j : Nat) (F G : List Tm) (x5 : Value), j + k = l.length ∧ F = nzF (l.take j) ∧ F.length + G.length = j ∧ G ≠ [] ∧ VecT H' b s (F ++ G ++ l.drop j) ∧ Chg b H H' ∧ e' = [s, delF, .slice none 0 0, .int .i64 F.length, .int .i64 j, x5]) k [s, delF, .slice none 0 0, .int .i64 F2.length, .int .i64 ((j + 1 : Nat) : Int), .pointer (some ⟨q, 0, none⟩)] H6 := by
       intro F2 G2 H6 h1 h2 h3 h4 h5
       exact Round.mk (k - 1) (by omega) ⟨j + 1, F2, G2, _, by omega, h1, h2, h3, h4, h5, rfl⟩
     refine Test.split (fun hg => ?_) (fun hg => ?_)
     · have hg' : l[j].c ≠ 0 := by simpa using hg
       have hsh : F ++ g :: G' ++ l.drop j = F ++ g :: (G' ++ l.drop j) := by simp
       rw [hsh] at hv
       obtain ⟨j2, a2⟩ := VecT.at hv (i := F.length) (by simp)
       obtain ⟨cs, t1, hv6⟩ := VecT.putT (lim := lim) hv hl (i := F.length) (by simp) l[j]
       refine s_reg ?_
       simp only [o_pure, o_eff, o_nil, POp.ev, Opd.ev, EOp.ev, gv, setD, xsj, xel, hB.all, j2, t1]
       refine s_reg1 ?_
       simp only [o_pure, o_nil, POp.ev, Opd.ev, gv, setD, List.set, xsj, xel, binV, ne_eq, xnt, if_false, add1 (i := F.length) (by omega)]
       simp +decide only [pqn, pbn]
       refine s_reg1 ?_
       simp only [o_pure, o_nil, POp.ev, Opd.ev, gv, setD, List.set, xsj, xel, binV, ne_eq, xnt, if_false, add1 (i := j) (by omega)]
       simp +decide only [pqn]
       have e2 : (F ++ g :: (G' ++ l.drop j)).set F.length l[j] = (F ++ [l[j]]) ++ (G' ++ [l[j]]) ++ l.drop (j + 1) := by
         rw [List.set_append_right _ _ (by omega), Nat.sub_self, hdj]
         simp
       rw [e2] at hv6
       have := leave (F ++ [l[j]]) (G' ++ [l[j]]) _ (by rw [nzF_take_succ hlt', if_neg hg', hF]) (by simp; omega) (by simp) hv6 (hc.trans (Chg.put _ _ _))
       rw [List.length_append, List.length_singleton] at this
       exact this
     · have hg' : l[j].c = 0 := by simpa using hg
       refine s_skip1 ?_
       simp +decide only [pqn, pbn]
       refine s_reg1 ?_
       simp only [o_pure, o_nil, POp.ev, Opd.ev, gv, setD, List.set, xsj, xel, binV, ne_eq, xnt, if_false, add1 (i := j) (by omega)]
       simp +decide only [pqn]
       refine leave F (g :: G' ++ [l[j]]) _ (by rw [nzF_take_succ hlt', if_pos hg', List.append_nil, hF]) (by simp; omega) (by simp) ?_ hc
       rw [hdj] at hv
       simpa using hv
   · have hge : j = l.length := by simp at hlt; omega
     subst hge
     refine s_exit1 ?_
     simp +decide only [pqn, pqe, pbe, reduceIte]
     rw [List.take_length] at hF
     obtain ⟨vd, H4, vk, m1, m2, m3, m4, m5⟩ := VecT.cut (lim := lim) hv hl (k := F.length) (by simp <;> omega)
     refine s_reg ?_
     simp only [o_pure, o_eff, o_nil, POp.ev, Opd.ev, EOp.ev, gv, setD, Option.map_none, xms, xsj, xel, m1, m2]
     refine s_reg ?_
     simp only [o_pure, o_nil, POp.ev, Opd.ev, gv, setD, List.set, Option.map_none, xms, xsj, xel, m3]
     refine s_ret1 ?_
     simp +decide only [pfr, resV, resOne, gv, xsj, xel]
     rw [List.append_assoc, List.take_left] at m4
     rw [← hF]
     exact ⟨m4, hc.trans m5⟩
theorem collectG_ok (lim : Nat) (s : Value) (l0 : List Tm) (H : AHeap) (hl : lim ≤ H.next) (hs : SlT H s l0) (hn0 : l0.length ≤ 10000) :
   ACalls Tryz.prog lim n_impl_collect [s] H fun v H' => ∃ b, H.next ≤ b ∧ b ≤ H'.next ∧ VecT H' b v (coll l0) ∧ Ext H H' := by
 refine is_impl_collect.go rfl ?_
 unfold c_impl_collect
 refine s_reg ?_
 simp only [o_pure, o_nil, POp.ev, Opd.ev, env0, gu, setD, List.set, xsj, xel]
 refine s_reg ?_
 simp only [o_pure, o_callF, POp.ev, Opd.ev, gv, setD, List.map, xsj, xel]
 refine (clone_ok lim _ _ _ hl hs (by omega)).mono ?_
 rintro s1 H1 ⟨b1, hb1, hb2, hv1, hx1⟩
 have hlt1 : b1 < H1.next ∨ l0 = [] := by
   by_cases h : l0 = []
   · exact .inr h
   · exact .inl ((Vec.blk hv1 (fun e => h (List.length_eq_zero_iff.1 e))).elim fun _ h => h.2)
 simp only [o_cont, o_pure, o_nil, POp.ev, Opd.ev, gv, setD, List.set, xsj, xel]
 refine s_reg ?_
 simp only [o_pure, o_callF, POp.ev, Opd.ev, gv, setD, List.map, xsj, xel]
 refine (sortG_ok lim s1 b1 l0 _ hv1 (by omega) hlt1 hn0).mono ?_
 rintro _ H2 ⟨hv2, hc2⟩
 have hil : (isortF [] l0).length = l0.length := isort_length l0
 unfold coll
 generalize isortF [] l0 = l at hv2 hil ⊢
 have hn : l.length ≤ 10000 := by omega
 simp only [o_cont, o_nil, setD]
 have hs2 : SlT H2 s1 l := Vec.sl hv2
 have hx12 : Ext H H2 := Chg.ext hx1 hc2 hb1
 have hn12 := hx12.next
 refine s_reg ?_
 simp only [o_pure, o_nil, POp.ev, Opd.ev, setD, List.set, xsj, xel]
 refine s_assoc (s_reg ?_)
 simp only [o_pure, o_nil, POp.ev, Opd.ev, gv, setD, List.set, xsj, xel, hs2.lenV]
 refine s_block ?_
 refine s_loop1 (fun k e' H' => ∃ (i b : Nat) (v x4 x5 : Value) (out : List Tm), i + k = l.length ∧ (i = 0 ∧ out = [] ∨ 0 < i ∧ ∃ Q o, out = Q ++ [o] ∧ mrgS Q o (l.drop i) = mrg l) ∧ out.length ≤ i ∧ VecT H' b v out ∧ H2.next ≤ b ∧ b ≤ H'.next ∧ Ext H2 H' ∧ e' = [s, .slice none 0 0, s1, v, x4, x5, s1, .int .i64 l.length, .int .i64 i]) l.length ⟨0, H2.next, _, _, _, [], by omega, .inl ⟨rfl, rfl⟩, by simp, vecT_nil _ _, Nat.le_refl _, Nat.le_refl _, Ext.refl _, rfl⟩ ?_
 rintro k e' H' ⟨i, b, v, x4, x5, out, hik, hst, hol, hv, hb, hbH, hx, rfl⟩
 have hnx := hx.next
 refine s_test ?_
 simp only [o_pure, o_nil, POp.ev, Opd.ev, gv, setD, xsj, xel, binV, ne_eq, xnt, if_false]
 refine Test.split (fun hlt => ?_) (fun hlt => ?_)
 · have hlt' : i < l.length := by simpa using hlt
   obtain ⟨b2, o2, h2, a2⟩ := (hs2.ext hx).at hlt'
   have hdi : l.drop i = l[i] :: l.drop (i + 1) := (List.getElem_cons_drop ..).symm
   refine s_skip1 ?_
   simp +decide only [pqn]
   refine s_block ?_
   refine s_reg ?_
   simp only [o_pure, o_eff, o_nil, POp.ev, Opd.ev, EOp.ev, gv, setD, List.set, xsj, xel, h2, a2.all, store4_new (lim := lim) (H := H') (by omega)]
   have hB := BoxT.mk' H' l[i]
   generalize H'.alloc (tc l[i]) = H3 at hB ⊢
   generalize H'.next = q at hB hnx hbH ⊢
   have hx3 := hx.trans hB.ext
   have hn3 := hB.lt
   have hq := hB.ge
   replace hv := VecT.ext hv hB.ext
   refine s_reg ?_
   simp only [o_pure, o_nil, POp.ev, Opd.ev, gv, setD, List.set, xsj, xel, Vec.lenV hv]
   have leave : ∀ (b' : Nat) (v' : Value) (out' : List Tm) (H4 : AHeap) (x4 x5 : Value), (0 < i + 1 ∧ ∃ Q o, out' = Q ++ [o] ∧ mrgS Q o (l.drop (i + 1)) = mrg l) → out'.length ≤ i + 1 → VecT H4 b' v' out' → H2.next ≤ b' → b' ≤ H4.next → Ext H2 H4 →
       Round (fun k e' H' => ∃ (i b : Nat) (v x4 x5 : Value) (out : List Tm), i + k = l.length ∧ (i = 0 ∧ out = [] ∨ 0 < i ∧ ∃ Q o, out = Q ++ [o] ∧ mrgS Q o (l.drop i) = mrg l) ∧ out.length ≤ i ∧ VecT H' b v out ∧ H2.next ≤ b ∧ b ≤ H'.next ∧ Ext H2 H' ∧ e' = [s, .slice none 0 0, s1, v, x4, x5, s1, .int .i64 l.length, .int .i64 i]) k [s, .slice none 0 0, s1, v', x4, x5, s1, .int .i64 l.length, .int .i64 ((i + 1 : Nat) : Int)] H4 := by
     intro b' v' out' H4 x4 x5 g1 g2 g3 g4 g5 g6
     exact Round.mk (k - 1) (by omega) ⟨i + 1, b', v', x4, x5, out', by omega, .inr g1, g2, g3, g4, g5, g6, rfl⟩
   have push : ∀ (H4 : AHeap) (x5 : Value), Ext H3 H4 → (∃ Q o, out ++ [l[i]] = Q ++ [o] ∧ mrgS Q o (l.drop (i + 1)) = mrg l) → awp Tryz.prog lim (.reg [⟨(.pure (.id (.v 3))), none, none⟩, ⟨(.pure (.loadN 4 (.v 4))), none, none⟩, ⟨(.eff (.bslice 1 [(.int .i64 0), (.int .i64 0), (.int .i64 0), (.int .i64 0)] [(0, 4, (.t 0))])), none, none⟩, ⟨(.eff (.append 4 32 (.t 2) (.t 0))), none, none⟩, ⟨(.pure (.id (.t 0))), (some 3), none⟩])
       (Post.seq (fun e' H5 => ∃ b' v' out', VecT H5 b' v' out' ∧ H2.next ≤ b' ∧ b' ≤ H5.next ∧ Ext H2 H5 ∧ out'.length ≤ i + 1 ∧ (∃ Q o, out' = Q ++ [o] ∧ mrgS Q o (l.drop (i + 1)) = mrg l) ∧ e' = [s, .slice none 0 0, s1, v', .pointer (some ⟨q, 0, none⟩), x5, s1, .int .i64 l.length, .int .i64 i]) (fun _ _ _ => False)) [s, .slice none 0 0, s1, v, .pointer (some ⟨q, 0, none⟩), x5, s1, .int .i64 l.length, .int .i64 i] H4 := by
     intro H4 x5 hx4 hm
     have hB4 := hB.mono hx4
     have hv4 := VecT.ext hv hx4
     have hn4 := hx4.next
     obtain ⟨v', H5, b', g1, g2, g3, g4, g5⟩ := pushT (lim := lim) hv4 l[i] (by omega) (by omega)
     refine s_reg1 ?_
     simp only [o_pure, o_eff, o_nil, POp.ev, Opd.ev, EOp.ev, gv, setD, List.set, List.map, xsj, xel, hB4.all, bsliceT, g1]
     simp +decide only [pqn]
     exact ⟨b', v', _, g2, by rcases g3 with rfl | g3 <;> omega, by omega, Chg.ext (hx3.trans hx4) g5 hb, by simp; omega, hm, rfl⟩
   refine s_cut0 (fun e' H5 => ∃ b' v' out', VecT H5 b' v' out' ∧ H2.next ≤ b' ∧ b' ≤ H5.next ∧ Ext H2 H5 ∧ out'.length ≤ i + 1 ∧ (∃ Q o, out' = Q ++ [o] ∧ mrgS Q o (l.drop (i + 1)) = mrg l) ∧ e' = [s, .slice none 0 0, s1, v', .pointer (some ⟨q, 0, none⟩), .int .i64 out.length, s1, .int .i64 l.length, .int .i64 i]) ?_ ?_
   · refine s_test1 ?_
     rcases hst with ⟨hi0, rfl⟩ | ⟨hi0, Q, o, rfl, hm⟩
     · have d0 : decide ((([] : List Tm).length : Int) > 0) = false := by decide
       simp only [o_pure, o_guard, gk_ft, o_nil, POp.ev, Opd.ev, gv, setD, xsj, xel, pickV, binV, ne_eq, xnt, if_false, d0]
       refine Test.false_ (push H3 _ (Ext.refl _) ⟨[], l[i], rfl, ?_⟩)
       subst hi0
       rw [List.drop_zero] at hdi
       generalize hx0 : l[0] = x0 at hdi ⊢
       rw [hdi]
       rfl
     · have d0 : decide (((Q ++ [o]).length : Int) > 0) = true := decide_eq_true (by simp <;> omega)
       have w1 : IntKind.i64.wrap (((Q ++ [o]).length : Int) - 1) = (Q.length : Int) := by rw [sub1N (by simp) (by omega)]; simp
       obtain ⟨h5, a5⟩ := VecT.at hv (i := Q.length) (by simp)
       rw [get_mid (B := []) rfl] at a5
       rw [hdi, mrgS] at hm
       simp only [o_pure, o_callF, o_guard, gk_tt, POp.ev, Opd.ev, gv, setD, List.map, xsj, xel, binV, ne_eq, xnt, if_false, d0, w1, h5, a5.all, hB.all]
       refine (compareTerms_ok _ _ _ _).mono ?_
       rintro _ H4 ⟨rfl, hx4⟩
       have hB4 := hB.mono hx4
       have hv4 := VecT.ext hv hx4
       have hn4 := hx4.next
       simp only [o_cont, o_pure, o_guard, gk_tt, o_nil, POp.ev, Opd.ev, gv, setD, xsj, xel, pickV, binV, ne_eq, xnt, if_false, cmpT_eq]
       refine Test.split (fun hg => ?_) (fun hg => ?_)
       · have hg' : ordT o l[i] = 0 := by simpa using hg
         rw [if_pos hg'] at hm
         obtain ⟨h6, a6⟩ := VecT.at hv4 (i := Q.length) (by simp)
         rw [get_mid (B := []) rfl] at a6
         obtain ⟨cs, t1, hv6⟩ := VecT.putf (lim := lim) hv4 (by omega) (i := Q.length) (t := o) (by simp) (W (o.c + l[i].c)) (j := 0) (by decide)
         simp only [Nat.add_zero] at t1
         have e6 : (Q ++ [o]).set Q.length (o.upd 0 (W (o.c + l[i].c))) = Q ++ [{ o with c := W (o.c + l[i].c) }] := by
           rw [List.set_append_right _ _ (by omega), Nat.sub_self]
           rfl
         rw [e6] at hv6
         refine s_reg1 ?_
         simp only [o_pure, o_eff, o_nil, POp.ev, Opd.ev, EOp.ev, gv, setD, xsj, xel, binV, load1V, fadV, ne_eq, xnt, if_false, w1, h6, Nat.add_zero, a6.c, hB4.c0, t1]
         simp +decide only [pqn]
         refine ⟨b, v, _, hv6, hb, ?_, Chg.ext (hx3.trans hx4) (Chg.put _ _ _) hb, by simp at hol ⊢; omega, ⟨Q, _, rfl, hm⟩, rfl⟩
         show b ≤ H4.next
         omega
       · have hg' : ¬ ordT o l[i] = 0 := by simpa using hg
         rw [if_neg hg'] at hm
         exact push H4 _ hx4 ⟨Q ++ [o], l[i], rfl, hm⟩
   rintro e' H5 ⟨b', v', out', g1, g2, g3, g4, g5, g6, rfl⟩
   simp +decide only [pqn, pbn]
   refine s_reg1 ?_
   simp only [o_pure, o_nil, POp.ev, Opd.ev, gv, setD, List.set, xsj, xel, binV, ne_eq, xnt, if_false, add1 (i := i) (by omega)]
   simp +decide only [pqn]
   exact leave b' v' out' H5 _ _ ⟨by omega, g6⟩ g5 g1 g2 g3 g4
 · have hge : i = l.length := by simp at hlt; omega
   subst hge
   have hout : out = mrg l := by
     rcases hst with ⟨h0, rfl⟩ | ⟨h0, Q, o, rfl, hm⟩
     · have : l = [] := List.length_eq_zero_iff.1 h0
       rw [this]; rfl
     · rw [List.drop_length, mrgS] at hm
       exact hm
   subst hout
   refine s_exit1 ?_
   simp +decide only [pqn, pqe, pbe, reduceIte]
   refine s_reg ?_
   simp only [o_pure, o_callF, POp.ev, Opd.ev, gv, setD, List.map, xsj, xel]
   refine (deleteFuncG_ok lim v b _ _ hv (by omega) (by omega) hbH (by omega)).mono ?_
   rintro _ H3 ⟨hv3, hc3⟩
   have hn3 := hc3.next
   simp only [o_cont, o_pure, o_nil, POp.ev, Opd.ev, gv, setD, List.set, xsj, xel]
   refine s_ret1 ?_
   simp +decide only [pfr, resV, resOne, gv, xsj, xel]
   exact ⟨b, by omega, by omega, hv3, Chg.ext (hx12.trans hx) hc3 (by omega)⟩
def posF (t : Tm) : List Tm → Nat
 | [] => 0
 | x :: l => if ordT x t < 0 then posF t l + 1 else 0
theorem posF_le (t : Tm) : ∀ l : List Tm, posF t l ≤ l.length
 | [] => Nat.le_refl _
 | x :: l => by
   unfold posF
   split
   · have := posF_le t l; simp; omega
   · simp
def Sor (l : List Tm) : Prop := l.Pairwise fun a b => ordT a b < 0
theorem Sorted.sor : ∀ {l : List Tm}, Sorted l → Sor l
 | [], _ => List.Pairwise.nil
 | [a], _ => List.pairwise_singleton _ _
 | a :: b :: l, h => by
   have h1 : Sor (b :: l) := Sorted.sor (fun i hi => h (i + 1) (by simpa using hi))
   have h0 : ordT a b < 0 := h 0 (by simp)
   refine List.Pairwise.cons (fun c hc => ?_) h1
   rcases List.mem_cons.1 hc with rfl | hc
   · exact h0
   · exact ordT_trans h0 (List.rel_of_pairwise_cons h1 hc)
theorem slcT {H : AHeap} {s : Value} {l : List Tm} (h : SlT H s l) {k : Nat} (hk : k ≤ l.length) :
   (∃ v, slcV 4 s none (some (.int .i64 k)) none = some v ∧ SlT H v (l.take k)) ∧ ∃ v, slcV 4 s (some (.int .i64 k)) none none = some v ∧ SlT H v (l.drop k) := by
 have cut : ∀ (i j : Nat), i ≤ j → j ≤ l.length → ((tcs l).drop (i * 4)).take ((j - i) * 4) = tcs ((l.drop i).take (j - i)) := by
   intro i j hij hj
   have e : l = l.take i ++ ((l.drop i).take (j - i) ++ (l.drop i).drop (j - i)) := by rw [List.take_append_drop, List.take_append_drop]
   have e2 : tcs l = tcs (l.take i) ++ (tcs ((l.drop i).take (j - i)) ++ tcs ((l.drop i).drop (j - i))) := by rw [← tcs_append, ← tcs_append, ← e]
   rw [e2, List.drop_append, List.drop_of_length_le (by rw [tcs_length]; simp; omega), List.nil_append, tcs_length]
   have : i * 4 - (l.take i).length * 4 = 0 := by simp; omega
   rw [this, List.drop_zero, List.take_append_of_le_length (by rw [tcs_length]; simp; omega), List.take_of_length_le (by rw [tcs_length]; simp; omega)]
 refine ⟨?_, ?_⟩
 · obtain ⟨v, h1, h2⟩ := Sl.slc h (i := 0) (j := k) (lo := none) (hi := some (.int .i64 k)) (Nat.zero_le _) hk (.inl ⟨rfl, rfl⟩) (.inr ⟨.i64, rfl⟩)
   refine ⟨v, h1, ?_⟩
   rw [cut 0 k (Nat.zero_le _) hk] at h2
   unfold SlT
   simp only [List.drop_zero, Nat.sub_zero] at h2
   have : (l.take k).length = k := by simp; omega
   rw [this]
   exact h2
 · obtain ⟨v, h1, h2⟩ := Sl.slc h (i := k) (j := l.length) (lo := some (.int .i64 k)) (hi := none) hk (Nat.le_refl _) (.inr ⟨.i64, rfl⟩) (.inl ⟨rfl, rfl⟩)
   refine ⟨v, h1, ?_⟩
   rw [cut k l.length hk (Nat.le_refl _)] at h2
   unfold SlT
   have e1 : (l.drop k).take (l.length - k) = l.drop k := List.take_of_length_le (by simp)
   rw [e1] at h2
   have : (l.drop k).length = l.length - k := by simp
   rw [this]
   exact h2
theorem posF_step {t : Tm} : ∀ {l : List Tm} {k : Nat} (hk : k < l.length), k ≤ posF t l → (if ordT l[k] t < 0 then k + 1 ≤ posF t l else k = posF t l)
 | [], k, hk, _ => by simp at hk
 | x :: l, 0, hk, h => by
   simp only [List.getElem_cons_zero]
   unfold posF
   by_cases hx : ordT x t < 0
   · rw [if_pos hx, if_pos hx]; omega
   · rw [if_neg hx, if_neg hx]
 | x :: l, k + 1, hk, h => by
   simp only [List.getElem_cons_succ]
   have hx : ordT x t < 0 := by
     by_cases hx : ordT x t < 0
     · exact hx
     · unfold posF at h
       rw [if_neg hx] at h
       omega
   have h' : k ≤ posF t l := by unfold posF at h; rw [if_pos hx] at h; omega
   have := posF_step (t := t) (l := l) (k := k) (by simpa using hk) h'
   unfold posF
   rw [if_pos hx]
   split
   · rename_i h2; rw [if_pos h2] at this; omega
   · rename_i h2; rw [if_neg h2] at this; omega
def cg (a b : Int) : Prop := (18446744073709551616 : Int) ∣ a - b
def inR (a : Int) : Prop := -9223372036854775808 ≤ a ∧ a < 9223372036854775808
theorem cg.refl (a : Int) : cg a a := ⟨0, by omega⟩
theorem cg.of_eq {a b : Int} (h : a = b) : cg a b := h ▸ cg.refl a
theorem cg.symm {a b : Int} (h : cg a b) : cg b a := by obtain ⟨k, h⟩ := h; exact ⟨-k, by omega⟩
theorem cg.trans {a b c : Int} (h : cg a b) (g : cg b c) : cg a c := by obtain ⟨k, h⟩ := h; obtain ⟨m, g⟩ := g; exact ⟨k + m, by omega⟩
theorem cg.add {a b c d : Int} (h : cg a b) (g : cg c d) : cg (a + c) (b + d) := by obtain ⟨k, h⟩ := h; obtain ⟨m, g⟩ := g; exact ⟨k + m, by omega⟩
theorem cg.sub {a b c d : Int} (h : cg a b) (g : cg c d) : cg (a - c) (b - d) := by obtain ⟨k, h⟩ := h; obtain ⟨m, g⟩ := g; exact ⟨k - m, by omega⟩
theorem cg.mul {a b c d : Int} (h : cg a b) (g : cg c d) : cg (a * c) (b * d) := by
 obtain ⟨k, h⟩ := h
 obtain ⟨m, g⟩ := g
 refine ⟨k * c + b * m, ?_⟩
 have e : a * c - b * d = (a - b) * c + b * (c - d) := by rw [Int.sub_mul, Int.mul_sub]; omega
 rw [e, h, g, Int.mul_add, Int.mul_assoc, Int.mul_left_comm b]
theorem cg_W (a : Int) : cg (W a) a := by
 unfold W
 rw [IntKind.wrap_i64]
 refine ⟨-((a + 9223372036854775808) / 18446744073709551616), ?_⟩
 omega
theorem W_in (a : Int) : inR (W a) := by
 unfold W inR
 rw [IntKind.wrap_i64]
 omega
theorem cg.eq {a b : Int} (h : cg a b) (h1 : inR a) (h2 : inR b) : a = b := by
 obtain ⟨k, h⟩ := h
 unfold inR at *
 omega
theorem W_of_in {a : Int} (h : inR a) : W a = a := (cg_W a).eq (W_in a) h
def cs (k : Tm) : List Tm → Int
 | [] => 0
 | t :: l => (if ordT t k = 0 then t.c else 0) + cs k l
theorem cs_append (k : Tm) : ∀ l m : List Tm, cs k (l ++ m) = cs k l + cs k m
 | [], m => by simp [cs]
 | t :: l, m => by rw [List.cons_append, cs, cs, cs_append k l]; omega
theorem cs_reverse (k : Tm) : ∀ l : List Tm, cs k l.reverse = cs k l
 | [] => rfl
 | t :: l => by rw [List.reverse_cons, cs_append, cs_reverse k l]; simp only [cs]; omega
theorem cs_zero {k : Tm} : ∀ {l : List Tm}, (∀ t ∈ l, ordT t k ≠ 0) → cs k l = 0
 | [], _ => rfl
 | t :: l, h => by rw [cs, if_neg (h t (by simp)), cs_zero (fun x hx => h x (by simp [hx]))]; rfl
theorem cs_insRev (k t : Tm) : ∀ l : List Tm, cs k (insRev t l) = cs k (t :: l)
 | [] => rfl
 | x :: l => by
   unfold insRev
   split
   · simp only [cs]
     rw [cs_insRev k t l]
     simp only [cs]
     omega
   · rfl
theorem cs_insB (k t : Tm) (l : List Tm) : cs k (insB l t) = cs k l + cs k [t] := by
 unfold insB
 rw [cs_reverse, cs_insRev, cs, cs_reverse]
 simp only [cs]
 omega
theorem cs_isortF (k : Tm) : ∀ l P : List Tm, cs k (isortF P l) = cs k P + cs k l
 | [], P => by simp [isortF, cs]
 | t :: l, P => by rw [isortF, cs_isortF k l, cs_insB]; simp only [cs]; omega
theorem ordT_c (o k : Tm) (c : Int) : ordT { o with c := c } k = ordT o k := rfl
theorem ord_same {o t k : Tm} (h : ordT o t = 0) : (ordT o k = 0 ↔ ordT t k = 0) := by
 rw [ordT_zero] at h
 rw [ordT_zero, ordT_zero]
 omega
theorem cs_mrgS (k : Tm) : ∀ (l Q : List Tm) (o : Tm), cg (cs k (mrgS Q o l)) (cs k (Q ++ [o]) + cs k l)
 | [], Q, o => cg.of_eq (by simp [mrgS, cs])
 | t :: l, Q, o => by
   unfold mrgS
   by_cases h : ordT o t = 0
   · rw [if_pos h]
     refine (cs_mrgS k l Q _).trans ?_
     rw [cs_append, cs_append]
     simp only [cs, ordT_c]
     have h2 := ord_same (k := k) h
     by_cases h3 : ordT o k = 0
     · rw [if_pos h3, if_pos (h2.1 h3)]
       have := cg_W (o.c + t.c)
       obtain ⟨m, hm⟩ := this
       exact ⟨m, by omega⟩
     · rw [if_neg h3, if_neg (fun h4 => h3 (h2.2 h4))]
       exact cg.of_eq (by omega)
   · rw [if_neg h]
     refine (cs_mrgS k l (Q ++ [o]) t).trans (cg.of_eq ?_)
     rw [cs_append]
     simp only [cs]
     omega
theorem cs_mrg (k : Tm) (l : List Tm) : cg (cs k (mrg l)) (cs k l) := by
 cases l with
 | nil => exact cg.refl _
 | cons t l =>
   refine (cs_mrgS k l [] t).trans (cg.of_eq ?_)
   simp only [List.nil_append, cs]
   omega
theorem cs_nzF (k : Tm) : ∀ l : List Tm, cs k (nzF l) = cs k l
 | [] => rfl
 | t :: l => by
   have e : nzF (t :: l) = if t.c = 0 then nzF l else t :: nzF l := by
     by_cases h : t.c = 0 <;> simp [nzF, h]
   rw [e]
   by_cases h : t.c = 0
   · rw [if_pos h, cs_nzF k l, cs, h]
     split <;> omega
   · rw [if_neg h, cs, cs_nzF k l, cs]
theorem cs_coll (k : Tm) (l : List Tm) : cg (cs k (coll l)) (cs k l) := by
 unfold coll
 rw [cs_nzF]
 refine (cs_mrg k _).trans (cg.of_eq ?_)
 rw [cs_isortF]
 simp [cs]
structure Can (l : List Tm) : Prop where
 sor : Sor l
 nz : ∀ t ∈ l, t.c ≠ 0 ∧ inR t.c
theorem Can.nil : Can [] := ⟨List.Pairwise.nil, by simp⟩
theorem sor_mrgS : ∀ (l Q : List Tm) (o : Tm), Sor (Q ++ [o]) → WS (o :: l) → Sor (mrgS Q o l)
 | [], Q, o, h, _ => h
 | t :: l, Q, o, h, hw => by
   obtain ⟨w1, w2⟩ := List.pairwise_cons.1 hw
   unfold mrgS
   by_cases he : ordT o t = 0
   · rw [if_pos he]
     refine sor_mrgS l Q _ ?_ ?_
     · obtain ⟨s1, s2, s3⟩ := List.pairwise_append.1 h
       exact List.pairwise_append.2 ⟨s1, List.pairwise_singleton _ _, fun a ha b hb => by rw [List.mem_singleton.1 hb]; exact s3 a ha o (by simp)⟩
     · exact List.pairwise_cons.2 ⟨fun a ha => w1 a (by simp [ha]), (List.pairwise_cons.1 w2).2⟩
   · rw [if_neg he]
     have hlt : ordT o t < 0 := by
       have h1 := w1 t (by simp)
       have h2 := ordT_neg o t
       unfold leT at h1
       omega
     refine sor_mrgS l _ _ ?_ w2
     obtain ⟨s1, s2, s3⟩ := List.pairwise_append.1 h
     refine List.pairwise_append.2 ⟨h, List.pairwise_singleton _ _, fun a ha b hb => ?_⟩
     rw [List.mem_singleton.1 hb]
     rcases List.mem_append.1 ha with ha | ha
     · exact ordT_trans (s3 a ha o (by simp)) hlt
     · rw [List.mem_singleton.1 ha]; exact hlt
theorem in_mrgS : ∀ (l Q : List Tm) (o : Tm), (∀ t ∈ Q ++ [o], inR t.c) → (∀ t ∈ l, inR t.c) → ∀ t ∈ mrgS Q o l, inR t.c
 | [], Q, o, h, _ => h
 | t :: l, Q, o, h, hl => by
   unfold mrgS
   split
   · refine in_mrgS l Q _ (fun x hx => ?_) (fun x hx => hl x (by simp [hx]))
     rcases List.mem_append.1 hx with hx | hx
     · exact h x (by simp [hx])
     · rw [List.mem_singleton.1 hx]; exact W_in _
   · refine in_mrgS l _ _ (fun x hx => ?_) (fun x hx => hl x (by simp [hx]))
     rcases List.mem_append.1 hx with hx | hx
     · exact h x hx
     · rw [List.mem_singleton.1 hx]; exact hl t (by simp)
theorem can_coll {l : List Tm} (h : ∀ t ∈ l, inR t.c) : Can (coll l) := by
 have hw := ws_isort l
 have hi : ∀ t ∈ isortF [] l, inR t.c := fun t ht => h t (by
   rcases mem_isortF.1 ht with ht | ht
   · simp at ht
   · exact ht)
 unfold coll
 generalize isortF [] l = m at hw hi
 have h1 : Sor (mrg m) ∧ ∀ t ∈ mrg m, inR t.c := by
   cases m with
   | nil => exact ⟨List.Pairwise.nil, by simp [mrg]⟩
   | cons t m => exact ⟨sor_mrgS m [] t (List.pairwise_singleton _ _) hw, in_mrgS m [] t (fun x hx => hi x (by simpa using .inl (List.mem_singleton.1 (by simpa using hx)))) (fun x hx => hi x (by simp [hx]))⟩
 refine ⟨h1.1.sublist List.filter_sublist, fun t ht => ?_⟩
 obtain ⟨g1, g2⟩ := List.mem_filter.1 ht
 exact ⟨by simpa using g2, h1.2 t g1⟩
theorem Can.uniq : ∀ {l m : List Tm}, Can l → Can m → (∀ k, cg (cs k l) (cs k m)) → l = m
 | [], [], _, _, _ => rfl
 | [], b :: m, _, hm, h => by
   exfalso
   obtain ⟨s1, s2⟩ := List.pairwise_cons.1 hm.sor
   have hk := h b
   have hz : cs b m = 0 := cs_zero fun t ht => by have := s1 t ht; have := ordT_neg b t; omega
   have hb : ordT b b = 0 := by rw [ordT_zero]; simp
   rw [cs, cs, if_pos hb, hz] at hk
   have hn := hm.nz b (by simp)
   have := hk.eq (by unfold inR; omega) (by have := hn.2; unfold inR at *; omega)
   omega
 | a :: l, [], hl, _, h => by
   exfalso
   obtain ⟨s1, s2⟩ := List.pairwise_cons.1 hl.sor
   have hk := h a
   have hz : cs a l = 0 := cs_zero fun t ht => by have := s1 t ht; have := ordT_neg a t; omega
   have hb : ordT a a = 0 := by rw [ordT_zero]; simp
   rw [cs, cs, if_pos hb, hz] at hk
   have hn := hl.nz a (by simp)
   have := hk.eq (by have := hn.2; unfold inR at *; omega) (by unfold inR; omega)
   omega
 | a :: l, b :: m, hl, hm, h => by
   obtain ⟨s1, s2⟩ := List.pairwise_cons.1 hl.sor
   obtain ⟨r1, r2⟩ := List.pairwise_cons.1 hm.sor
   have haa : ordT a a = 0 := by rw [ordT_zero]; simp
   have hbb : ordT b b = 0 := by rw [ordT_zero]; simp
   have hza : cs a l = 0 := cs_zero fun t ht => by have := s1 t ht; have := ordT_neg a t; omega
   have hzb : cs b m = 0 := cs_zero fun t ht => by have := r1 t ht; have := ordT_neg b t; omega
   have na := hl.nz a (by simp)
   have nb := hm.nz b (by simp)
   rcases Int.lt_trichotomy (ordT a b) 0 with h1 | h1 | h1
   · exfalso
     have hk := h a
     have hz : cs a (b :: m) = 0 := cs_zero fun t ht => by
       have : ordT a t < 0 := by
         rcases List.mem_cons.1 ht with rfl | ht
         · exact h1
         · exact ordT_trans h1 (r1 t ht)
       have := ordT_neg a t
       omega
     rw [cs, if_pos haa, hza, hz] at hk
     have := hk.eq (by have := na.2; unfold inR at *; omega) (by unfold inR; omega)
     omega
   · have hc : a.c = b.c := by
       have hk := h a
       have h2 : ordT b a = 0 := by have := ordT_neg a b; omega
       have hz : cs a m = 0 := cs_zero fun t ht => by
         have h3 := r1 t ht
         have h4 := (ord_same (k := t) h1)
         have h5 := ordT_neg b t
         have h6 := ordT_neg a t
         omega
       rw [cs, cs, if_pos haa, if_pos h2, hza, hz] at hk
       have := hk.eq (by have := na.2; unfold inR at *; omega) (by have := nb.2; unfold inR at *; omega)
       omega
     have hab : a = b := by
       obtain ⟨e1, e2, e3⟩ := (ordT_zero a b).1 h1
       cases a
       cases b
       simp only at *
       subst e1 e2 e3 hc
       rfl
     subst hab
     have ht : l = m := Can.uniq ⟨s2, fun t ht => hl.nz t (by simp [ht])⟩ ⟨r2, fun t ht => hm.nz t (by simp [ht])⟩ (fun k => by
       have hk := h k
       rw [cs, cs] at hk
       have := hk.sub (cg.refl (if ordT a k = 0 then a.c else 0))
       exact ((cg.of_eq (by omega)).trans this).trans (cg.of_eq (by omega)))
     rw [ht]
   · exfalso
     have hk := h b
     have h2 : ordT b a < 0 := by have := ordT_neg a b; omega
     have hz : cs b (a :: l) = 0 := cs_zero fun t ht => by
       have : ordT b t < 0 := by
         rcases List.mem_cons.1 ht with rfl | ht
         · exact h2
         · exact ordT_trans h2 (s1 t ht)
       have := ordT_neg b t
       omega
     rw [hz, cs, if_pos hbb, hzb] at hk
     have := hk.eq (by unfold inR; omega) (by have := nb.2; unfold inR at *; omega)
     omega
def putF (t : Tm) : List Tm → List Tm
 | [] => if t.c = 0 then [] else [t]
 | x :: l => if ordT x t < 0 then x :: putF t l else if ordT x t = 0 then (if W (t.c + x.c) = 0 then l else { t with c := W (t.c + x.c) } :: l) else if t.c = 0 then x :: l else t :: x :: l
theorem mem_putF {t y : Tm} : ∀ {l : List Tm}, y ∈ putF t l → y ∈ l ∨ ordT y t = 0
 | [], h => by
   unfold putF at h
   split at h
   · simp at h
   · rw [List.mem_singleton.1 h]; exact .inr (by rw [ordT_zero]; simp)
 | x :: l, h => by
   unfold putF at h
   split at h
   · rcases List.mem_cons.1 h with rfl | h
     · exact .inl (by simp)
     · rcases mem_putF h with h | h
       · exact .inl (by simp [h])
       · exact .inr h
   · split at h
     · split at h
       · exact .inl (by simp [h])
       · rcases List.mem_cons.1 h with rfl | h
         · exact .inr (by rw [ordT_zero]; simp)
         · exact .inl (by simp [h])
     · split at h
       · exact .inl h
       · rcases List.mem_cons.1 h with rfl | h
         · exact .inr (by rw [ordT_zero]; simp)
         · exact .inl h
theorem Can.put {t : Tm} (ht : inR t.c) : ∀ {l : List Tm}, Can l → Can (putF t l)
 | [], _ => by
   unfold putF
   split
   · exact Can.nil
   · rename_i h
     exact ⟨List.pairwise_singleton _ _, fun x hx => by rw [List.mem_singleton.1 hx]; exact ⟨h, ht⟩⟩
 | x :: l, hl => by
   obtain ⟨s1, s2⟩ := List.pairwise_cons.1 hl.sor
   have hl' : Can l := ⟨s2, fun t ht => hl.nz t (by simp [ht])⟩
   have ih := Can.put ht hl'
   unfold putF
   split
   · rename_i hlt
     refine ⟨List.pairwise_cons.2 ⟨fun y hy => ?_, ih.sor⟩, fun y hy => ?_⟩
     · rcases mem_putF hy with hy | hy
       · exact s1 y hy
       · have e1 := ordT_lt x t
         have e2 := ordT_lt x y
         have e3 := ordT_zero y t
         omega
     · rcases List.mem_cons.1 hy with rfl | hy
       · exact hl.nz y (by simp)
       · exact ih.nz y hy
   · rename_i hge
     split
     · rename_i he
       split
       · exact hl'
       · rename_i hw
         refine ⟨List.pairwise_cons.2 ⟨fun y hy => ?_, s2⟩, fun y hy => ?_⟩
         · rw [ordT_c]
           have e1 := ordT_lt x y
           have e2 := ordT_lt t y
           have e3 := ordT_zero x t
           have := s1 y hy
           omega
         · rcases List.mem_cons.1 hy with rfl | hy
           · exact ⟨hw, W_in _⟩
           · exact hl'.nz y hy
     · rename_i hne
       split
       · exact hl
       · rename_i hc
         have hlt : ordT t x < 0 := by have := ordT_neg x t; omega
         refine ⟨List.pairwise_cons.2 ⟨fun y hy => ?_, hl.sor⟩, fun y hy => ?_⟩
         · rcases List.mem_cons.1 hy with rfl | hy
           · exact hlt
           · exact ordT_trans hlt (s1 y hy)
         · rcases List.mem_cons.1 hy with rfl | hy
           · exact ⟨hc, ht⟩
           · exact hl.nz y hy
theorem cs_putF (k t : Tm) : ∀ l : List Tm, cg (cs k (putF t l)) (cs k l + cs k [t])
 | [] => by
   unfold putF
   split
   · rename_i h
     refine cg.of_eq ?_
     simp only [cs, h]
     split <;> omega
   · exact cg.of_eq (by simp [cs])
 | x :: l => by
   unfold putF
   split
   · have ih := cs_putF k t l
     obtain ⟨m, hm⟩ := ih
     refine ⟨m, ?_⟩
     simp only [cs] at hm ⊢
     omega
   · split
     · rename_i he
       have h2 := ord_same (k := k) he
       have hw := cg_W (t.c + x.c)
       obtain ⟨m, hm⟩ := hw
       split
       · rename_i h0
         simp only [cs]
         by_cases h3 : ordT x k = 0
         · rw [if_pos h3, if_pos (h2.1 h3)]
           exact ⟨m, by omega⟩
         · rw [if_neg h3, if_neg (fun h4 => h3 (h2.2 h4))]
           exact cg.of_eq (by omega)
       · simp only [cs, ordT_c]
         by_cases h3 : ordT x k = 0
         · rw [if_pos h3, if_pos (h2.1 h3)]
           exact ⟨m, by omega⟩
         · rw [if_neg h3, if_neg (fun h4 => h3 (h2.2 h4))]
           exact cg.of_eq (by omega)
     · split
       · rename_i h0
         refine cg.of_eq ?_
         simp only [cs, h0]
         split <;> split <;> omega
       · refine cg.of_eq ?_
         simp only [cs]
         omega
theorem putF_length (t : Tm) : ∀ l : List Tm, (putF t l).length ≤ l.length + 1
 | [] => by unfold putF; split <;> simp
 | x :: l => by
   have ih := putF_length t l
   unfold putF
   split
   · simp; omega
   · split
     · split <;> simp <;> omega
     · split <;> simp
def exB (t : Tm) : Prop := (-1000000 ≤ t.x ∧ t.x ≤ 1000000) ∧ (-1000000 ≤ t.y ∧ t.y ≤ 1000000) ∧ (-1000000 ≤ t.z ∧ t.z ≤ 1000000)
theorem orderG_ok (lim : Nat) (a b : Tm) (H : AHeap) (ha : exB a) (hb : exB b) : ACalls Tryz.prog lim n_spec_poOrder [tv a, tv b] H fun v H' => v = .int .i64 (ordT a b) ∧ Ext H H' := by
 obtain ⟨b1, b2, b3⟩ := ha
 obtain ⟨c1, c2, c3⟩ := hb
 refine is_spec_poOrder.go rfl ?_
 unfold c_spec_poOrder ordT
 refine s_reg ?_
 simp only [o_pure, o_eff, o_nil, POp.ev, Opd.ev, EOp.ev, env0, gu, gv, setD, List.set, xsj, xel, ne_eq, boxT]
 have hA := BoxT.mk' H a
 have hB := BoxT.mk' (H.alloc (tc a)) b
 replace hA := hA.mono hB.ext
 generalize (H.alloc (tc a)).alloc (tc b) = H1 at hA hB ⊢
 generalize (H.alloc (tc a)).next = q at hB ⊢
 generalize H.next = p at hA ⊢
 have hx := hA.ext
 have w1 : IntKind.i64.wrap (a.x - b.x) = a.x - b.x := by rw [IntKind.wrap_i64]; omega
 have w2 : IntKind.i64.wrap (a.y - b.y) = a.y - b.y := by rw [IntKind.wrap_i64]; omega
 have w3 : IntKind.i64.wrap (a.z - b.z) = a.z - b.z := by rw [IntKind.wrap_i64]; omega
 refine s_block ?_
 refine s_test1 ?_
 simp only [o_pure, o_nil, POp.ev, Opd.ev, gv, setD, xsj, xel, binV, load1V, fadV, ne_eq, xnt, if_false, Nat.zero_add, hA.c1, hB.c1]
 refine Test.split (fun h => ?_) (fun h => ?_)
 · refine s_reg ?_
   simp only [o_pure, o_callF, POp.ev, Opd.ev, gv, setD, List.map, xsj, xel, binV, load1V, fadV, ne_eq, xnt, if_false, Nat.zero_add, hA.c1, hB.c1, w1]
   refine (l1Sign_ok _ _ _).eq ?_
   simp only [o_cont, o_pure, o_nil, POp.ev, Opd.ev, gv, setD, List.set, xsj, xel]
   refine s_ret1 ?_
   simp +decide only [pqr, pbr, pfr, resV, resOne, gv, xsj, xel]
   rw [if_pos (by simpa using h)]
   exact ⟨rfl, hx⟩
 · refine s_test1 ?_
   simp only [o_pure, o_nil, POp.ev, Opd.ev, gv, setD, xsj, xel, binV, load1V, fadV, ne_eq, xnt, if_false, Nat.zero_add, hA.c2, hB.c2]
   refine Test.split (fun h2 => ?_) (fun h2 => ?_)
   · refine s_reg ?_
     simp only [o_pure, o_callF, POp.ev, Opd.ev, gv, setD, List.map, xsj, xel, binV, load1V, fadV, ne_eq, xnt, if_false, Nat.zero_add, hA.c2, hB.c2, w2]
     refine (l1Sign_ok _ _ _).eq ?_
     simp only [o_cont, o_pure, o_nil, POp.ev, Opd.ev, gv, setD, List.set, xsj, xel]
     refine s_ret1 ?_
     simp +decide only [pqr, pbr, pfr, resV, resOne, gv, xsj, xel]
     rw [if_neg (by simpa using h), if_pos (by simpa using h2)]
     exact ⟨rfl, hx⟩
   · refine s_skip1 ?_
     simp +decide only [pqn, pbn]
     refine s_reg ?_
     simp only [o_pure, o_callF, POp.ev, Opd.ev, gv, setD, List.map, xsj, xel, binV, load1V, fadV, ne_eq, xnt, if_false, Nat.zero_add, hA.c3, hB.c3, w3]
     refine (l1Sign_ok _ _ _).eq ?_
     simp only [o_cont, o_pure, o_nil, POp.ev, Opd.ev, gv, setD, List.set, xsj, xel]
     refine s_ret1 ?_
     simp +decide only [pfr, resV, resOne, gv, xsj, xel]
     rw [if_neg (by simpa using h), if_neg (by simpa using h2)]
     exact ⟨rfl, hx⟩
def PutAt (t : Tm) (l : List Tm) (c : Int) (j : Nat) : Prop :=
 putF t l = l.take (posF t l) ++ (if c = 0 then [] else [{ t with c := c }]) ++ l.drop j
theorem putF_same {t : Tm} : ∀ {l : List Tm} (h : posF t l < l.length), ordT (l[posF t l]'h) t = 0 → PutAt t l (W (t.c + (l[posF t l]'h).c)) (posF t l + 1)
 | [], h, _ => by simp at h
 | x :: l, h, he => by
   unfold PutAt
   by_cases hx : ordT x t < 0
   · have e : posF t (x :: l) = posF t l + 1 := by rw [posF, if_pos hx]
     have hlt : posF t l < l.length := by rw [e] at h; simpa using h
     simp only [e, List.getElem_cons_succ] at he ⊢
     have ih := putF_same hlt he
     unfold PutAt at ih
     rw [putF, if_pos hx, ih]
     simp
   · have e : posF t (x :: l) = 0 := by rw [posF, if_neg hx]
     simp only [e, List.getElem_cons_zero] at he ⊢
     rw [putF, if_neg hx, if_pos he]
     split <;> simp
theorem putF_new {t : Tm} : ∀ {l : List Tm}, (∀ h : posF t l < l.length, ordT (l[posF t l]'h) t ≠ 0) → PutAt t l t.c (posF t l)
 | [], _ => by
   unfold PutAt putF
   split <;> simp [posF]
 | x :: l, h => by
   unfold PutAt
   by_cases hx : ordT x t < 0
   · have e : posF t (x :: l) = posF t l + 1 := by rw [posF, if_pos hx]
     have ih := putF_new (t := t) (l := l) (fun hlt => by
       have := h (by rw [e]; simpa using hlt)
       simpa only [e, List.getElem_cons_succ] using this)
     unfold PutAt at ih
     rw [putF, if_pos hx, ih, e]
     simp
   · have e : posF t (x :: l) = 0 := by rw [posF, if_neg hx]
     have he : ordT x t ≠ 0 := by simpa only [e, List.getElem_cons_zero] using h (by rw [e]; simp)
     rw [putF, if_neg hx, if_neg he, e]
     split <;> simp
theorem appendT2 {lim : Nat} {H : AHeap} {b : Nat} {v x : Value} {l m : List Tm} (h : VecT H b v l) (hx : SlT H x m) (hl : lim ≤ b) (hn : l.length + m.length ≤ 1000000) :
   ∃ v' H' b', appendH lim H 4 32 v x = some (v', H') ∧ VecT H' b' v' (l ++ m) ∧ (b' = b ∨ H.next ≤ b' ∧ b' < H'.next) ∧ Chg b H H' := by
 obtain ⟨v', H', b', h1, h2, h3, h4, h5⟩ := Vec.append h (lim := lim) hl hx (by decide) (bytes := 32) (by omega)
 have h2' : VecT H' b' v' (l ++ m) := by
   unfold VecT
   rw [List.length_append, tcs_append]
   exact h2
 exact ⟨v', H', b', h1, h2', h3.imp id fun h => by omega, h4⟩
theorem putG_ok (lim : Nat) (s : Value) (l : List Tm) (t : Tm) (H : AHeap) (hl : lim ≤ H.next) (hs : SlT H s l) (hn : l.length ≤ 10000) (hok : ∀ x ∈ l, exB x) (ht : exB t) :
   ACalls Tryz.prog lim n_spec_poPut [s, tv t] H fun v H' => ∃ b, H.next ≤ b ∧ b ≤ H'.next ∧ VecT H' b v (putF t l) ∧ Ext H H' := by
 refine is_spec_poPut.go rfl ?_
 unfold c_spec_poPut
 refine s_reg ?_
 simp only [o_pure, o_eff, o_nil, POp.ev, Opd.ev, EOp.ev, env0, gu, gv, setD, List.set, xsj, xel, boxT]
 have hB := BoxT.mk' H t
 generalize H.alloc (tc t) = H1 at hB ⊢
 generalize hpe : H.next = p at hB hl ⊢
 have hpl := posF_le t l
 refine s_reg ?_
 simp only [o_pure, o_nil, POp.ev, Opd.ev, setD, List.set, xsj, xel]
 refine s_cut (fun e' H' => BoxT H H' p t ∧ e' = [s, tv t, .pointer (some ⟨p, 0, none⟩), .slice none 0 0, .int .i64 (posF t l), undef, undef]) ?_ ?_
 · refine s_block1 ?_
   refine s_loop1 (fun j e' H' => ∃ k : Nat, k + j = l.length ∧ k ≤ posF t l ∧ BoxT H H' p t ∧ e' = [s, tv t, .pointer (some ⟨p, 0, none⟩), .slice none 0 0, .int .i64 k, undef, undef]) l.length ⟨0, by omega, Nat.zero_le _, hB, rfl⟩ ?_
   clear hB
   rintro j e' H2 ⟨k, hkj, hkp, hB, rfl⟩
   have hs2 := hs.ext hB.ext
   refine s_test ?_
   by_cases hk : k < l.length
   · have d1 : decide ((k : Int) < (l.length : Int)) = true := decide_eq_true (by omega)
     obtain ⟨b1, o1, h1, a1⟩ := hs2.at hk
     have hst := posF_step (t := t) hk hkp
     simp only [o_pure, o_callF, o_guard, gk_tt, POp.ev, Opd.ev, gv, setD, List.map, xsj, xel, binV, ne_eq, xnt, if_false, hs.lenV, d1, h1, a1.all, hB.all]
     refine (orderG_ok _ _ _ _ (hok _ (List.getElem_mem hk)) ht).mono ?_
     rintro _ H3 ⟨rfl, hx3⟩
     have hB3 := hB.mono hx3
     simp only [o_cont, o_pure, o_guard, gk_tt, o_nil, POp.ev, Opd.ev, gv, setD, xsj, xel, pickV, binV, ne_eq, xnt, if_false]
     refine Test.split (fun hg => ?_) (fun hg => ?_)
     · have hlt : ordT l[k] t < 0 := by simpa using hg
       rw [if_pos hlt] at hst
       refine s_skip1 ?_
       simp +decide only [pqn]
       refine s_block1 ?_
       refine s_reg1 ?_
       simp only [o_pure, o_nil, POp.ev, Opd.ev, gv, setD, List.set, xsj, xel, binV, ne_eq, xnt, if_false, add1 (i := k) (by omega)]
       simp +decide only [pqn, pbn]
       exact Round.mk (j - 1) (by omega) ⟨k + 1, by omega, hst, hB3, rfl⟩
     · have hge3 : ¬ ordT l[k] t < 0 := by simpa using hg
       rw [if_neg hge3] at hst
       refine s_exit1 ?_
       simp +decide only [pqn, pqe, pbe, reduceIte]
       rw [← hst]
       exact ⟨hB3, rfl⟩
   · have d1 : decide ((k : Int) < (l.length : Int)) = false := decide_eq_false (by omega)
     simp only [o_pure, o_guard, gk_ft, o_nil, POp.ev, Opd.ev, gv, setD, xsj, xel, pickV, binV, ne_eq, xnt, if_false, hs.lenV, d1]
     refine Test.false_ (s_exit1 ?_)
     simp +decide only [pqn, pqe, pbe, reduceIte]
     have : k = posF t l := by omega
     rw [← this]
     exact ⟨hB, rfl⟩
 clear hB
 rintro e'' H3 ⟨hB3, rfl⟩
 have hge := hB3.ge
 have hnx3 := hB3.ext.next
 have hs3 := hs.ext hB3.ext
 obtain ⟨⟨v1, m1, m2⟩, v2, m3, m4⟩ := slcT hs3 hpl
 refine s_reg ?_
 simp only [o_pure, o_nil, POp.ev, Opd.ev, gv, setD, List.set, Option.map_none, xms, xsj, xel, m3]
 refine s_cut (fun e' H4 => ∃ (c : Int) (j : Nat) (v5 : Value), PutAt t l c j ∧ SlT H4 v5 (l.drop j) ∧ Ext H H4 ∧ BoxT H H4 p { t with c := c } ∧ e' = [s, tv t, .pointer (some ⟨p, 0, none⟩), .slice none 0 0, .int .i64 (posF t l), v5, undef]) ?_ ?_
 · refine s_test1 ?_
   by_cases hk : posF t l < l.length
   · have d1 : decide ((posF t l : Int) < (l.length : Int)) = true := decide_eq_true (by omega)
     obtain ⟨b1, o1, h1, a1⟩ := hs3.at hk
     simp only [o_pure, o_callF, o_guard, gk_tt, POp.ev, Opd.ev, gv, setD, List.map, xsj, xel, binV, ne_eq, xnt, if_false, hs.lenV, d1, h1, a1.all, hB3.all]
     refine (orderG_ok _ _ _ _ (hok _ (List.getElem_mem hk)) ht).mono ?_
     rintro _ H4 ⟨rfl, hx4⟩
     have hB4 := hB3.mono hx4
     have hs4 := hs3.ext hx4
     simp only [o_cont, o_pure, o_guard, gk_tt, o_nil, POp.ev, Opd.ev, gv, setD, xsj, xel, pickV, binV, ne_eq, xnt, if_false]
     refine Test.split (fun hg => ?_) (fun hg => ?_)
     · have hze : ordT l[posF t l] t = 0 := by simpa using hg
       obtain ⟨b4, o4, h4, a4⟩ := hs4.at hk
       obtain ⟨cs4, t4, hB5⟩ := hB4.put0 (lim := lim) (by omega) (W (t.c + l[posF t l].c))
       have hs5 := hs.ext hB5.ext
       obtain ⟨_, v6, m6, m7⟩ := slcT hs5 (k := posF t l + 1) (by omega)
       refine s_reg ?_
       simp only [o_pure, o_eff, o_nil, POp.ev, Opd.ev, EOp.ev, gv, setD, xsj, xel, binV, load1V, fadV, ne_eq, xnt, if_false, Nat.add_zero, hB4.c0, h4, a4.c, t4]
       refine s_reg1 ?_
       simp only [o_pure, o_nil, POp.ev, Opd.ev, gv, setD, List.set, Option.map_none, xms, xsj, xel, binV, ne_eq, xnt, if_false, add1 (i := posF t l) (by omega), m6]
       simp +decide only [pqn]
       exact ⟨_, _, _, putF_same hk hze, m7, hB5.ext, hB5, rfl⟩
     · have hze : ordT l[posF t l] t ≠ 0 := by simpa using hg
       refine s_skip1 ?_
       simp +decide only [pqn]
       exact ⟨t.c, _, _, putF_new (fun _ => hze), m4.ext hx4, hB4.ext, hB4, rfl⟩
   · have d1 : decide ((posF t l : Int) < (l.length : Int)) = false := decide_eq_false (by omega)
     simp only [o_pure, o_guard, gk_ft, o_nil, POp.ev, Opd.ev, gv, setD, xsj, xel, pickV, binV, ne_eq, xnt, if_false, hs.lenV, d1]
     refine Test.false_ (s_skip1 ?_)
     simp +decide only [pqn]
     exact ⟨t.c, _, _, putF_new (fun h => absurd h hk), m4, hB3.ext, hB3, rfl⟩
 clear hB3 m4 m3 v2 m1 m2 v1 hnx3 hs3
 rintro e'' H4 ⟨c, j, v2, hput, m4, hx4, hB4, rfl⟩
 have hnx4 := hx4.next
 have hs4 := hs.ext hx4
 obtain ⟨⟨v1, m1, m2⟩, _⟩ := slcT hs4 hpl
 obtain ⟨v5, H5, b5, g1, g2, g3, g4, g5⟩ := own_terms (lim := lim) (by omega) m2 (by simp; omega)
 have hB5 := hB4.mono g5
 refine s_reg ?_
 simp only [o_pure, o_eff, o_nil, POp.ev, Opd.ev, EOp.ev, gv, setD, List.set, List.map, Option.map_none, xms, xsj, xel, bslice0, m1, g1]
 refine s_cut (fun e' H6 => ∃ (b6 : Nat) (v6 : Value), VecT H6 b6 v6 (l.take (posF t l) ++ if c = 0 then [] else [{ t with c := c }]) ∧ H4.next ≤ b6 ∧ b6 < H6.next ∧ Ext H4 H6 ∧ e' = [s, tv t, .pointer (some ⟨p, 0, none⟩), .slice none 0 0, .int .i64 (posF t l), v2, v6]) ?_ ?_
 · refine s_test1 ?_
   simp only [o_pure, o_nil, POp.ev, Opd.ev, gv, setD, xsj, xel, binV, load1V, fadV, ne_eq, xnt, if_false, Nat.zero_add, hB5.c0]
   refine Test.split (fun hg => ?_) (fun hg => ?_)
   · have hc : c ≠ 0 := by simpa using hg
     obtain ⟨v6, H6, b6, q1, q2, q3, q4, q5⟩ := pushT (lim := lim) g2 { t with c := c } (by omega) (by simp; omega)
     refine s_reg1 ?_
     simp only [o_pure, o_eff, o_nil, POp.ev, Opd.ev, EOp.ev, gv, setD, List.set, List.map, xsj, xel, hB5.all, bsliceT, q1]
     simp +decide only [pqn]
     rw [if_neg hc]
     exact ⟨b6, v6, q2, by rcases q3 with rfl | q3; exact g3; have := g5.next; omega, q4, Chg.ext g5 q5 g3, rfl⟩
   · have hc : c = 0 := by simpa using hg
     refine s_skip1 ?_
     simp +decide only [pqn]
     rw [if_pos hc, List.append_nil]
     exact ⟨b5, v5, g2, g3, g4, g5, rfl⟩
 rintro e'' H6 ⟨b6, v6, q2, q3, q4, hx6, rfl⟩
 have hlen : (l.take (posF t l) ++ if c = 0 then [] else [{ t with c := c }]).length ≤ 10001 := by
   rw [List.length_append, List.length_take]
   split <;> simp <;> omega
 obtain ⟨v7, H7, b7, r1, r2, r3, r5⟩ := appendT2 (lim := lim) q2 (m4.ext hx6) (by omega) (by simp only [List.length_drop]; omega)
 have hx7 : Ext H4 H7 := Chg.ext hx6 r5 q3
 have hn6 := hx6.next
 have hn7 := r5.next
 have hb7 : H4.next ≤ b7 ∧ b7 ≤ H7.next := by rcases r3 with rfl | r3 <;> omega
 refine s_reg ?_
 simp only [o_pure, o_eff, o_nil, POp.ev, Opd.ev, EOp.ev, gv, setD, List.set, xsj, xel, r1]
 refine s_ret1 ?_
 simp +decide only [pfr, resV, resOne, gv, xsj, xel]
 unfold PutAt at hput
 rw [hput]
 exact ⟨b7, by omega, hb7.2, r2, hx4.trans hx7⟩
end Go.Proofs.YtmdeppkfboaepaaGreat
