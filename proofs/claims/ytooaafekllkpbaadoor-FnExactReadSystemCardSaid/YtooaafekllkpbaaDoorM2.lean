/- Parts of the proof of a statement of this seat: contracts of functions that the law calls, or the law's own row; no condition. -/
import Derived.Test.YtooaafekllkpbaaDoorM1
/- Parts of the proof of a statement of this seat: contracts of functions that the law calls, or the law's own row; no condition. -/
/- Systems of polynomials, part 7 of the walk: the implementation's tests, copies and its swapped system; no condition beyond stated lengths. -/
namespace Go.Proofs.YtooaafekllkpbaaDoor
open Go.Ab
set_option linter.unusedSimpArgs false
set_option linter.unusedVariables false

theorem inside_ok (lim : Nat) (a b c : Int) (H : AHeap) : ACalls Tryd.prog lim n_impl_inside [.int .i64 a, .int .i64 b, .int .i64 c] H fun v H' => v = .bool (decide (b ≤ a) && decide (a ≤ c)) ∧ H' = H := by
  refine is_impl_inside.go rfl ?_
  unfold c_impl_inside
  refine s_reg ?_
  simp only [o_pure, o_nil, POp.ev, Opd.ev, env0, gu, setD, List.set, Option.some.injEq, exists_eq_left']
  refine s_reg ?_
  have e1 : (a ≥ b) = (b ≤ a) := rfl
  cases h1 : decide (b ≤ a)
  · simp only [o_pure, o_guard, gk_ft, o_nil, POp.ev, Opd.ev, gv, setD, List.set, Option.some.injEq, exists_eq_left', pickV, binV, ne_eq, not_true_eq_false, if_false, e1, h1]
    refine s_ret1 ?_
    simp +decide only [p_fin_ret, resV, resOne, gv, Option.some.injEq, exists_eq_left']
    simp
  · simp only [o_pure, o_guard, gk_tt, o_nil, POp.ev, Opd.ev, gv, setD, List.set, Option.some.injEq, exists_eq_left', pickV, binV, ne_eq, not_true_eq_false, if_false, e1, h1]
    refine s_ret1 ?_
    simp +decide only [p_fin_ret, resV, resOne, gv, Option.some.injEq, exists_eq_left']
    simp

theorem degree_ok (lim : Nat) (t : Tm) (H : AHeap) (h1 : 0 ≤ t.x ∧ t.x ≤ 4) (h2 : 0 ≤ t.y ∧ t.y ≤ 4) (h3 : 0 ≤ t.z ∧ t.z ≤ 4) : ACalls Tryd.prog lim n_impl_Term_degree [tv t] H fun v H' => v = .int .i64 (t.x + t.y + t.z) ∧ Ext H H' := by
  refine is_impl_Term_degree.go rfl ?_
  unfold c_impl_Term_degree
  refine s_reg ?_
  simp only [o_pure, o_eff, o_nil, POp.ev, Opd.ev, EOp.ev, env0, gu, gv, setD, List.set, Option.some.injEq, exists_eq_left', boxT]
  have hB := BoxT.mk' H t
  generalize H.alloc (tc t) = H1 at hB ⊢
  generalize H.next = p at hB ⊢
  have hx := hB.ext
  have w1 : IntKind.i64.wrap (t.x + t.y) = t.x + t.y := by rw [IntKind.wrap_i64]; omega
  have w2 : IntKind.i64.wrap (t.x + t.y + t.z) = t.x + t.y + t.z := by rw [IntKind.wrap_i64]; omega
  refine s_reg ?_
  simp only [o_pure, o_nil, POp.ev, Opd.ev, gv, setD, List.set, Option.some.injEq, exists_eq_left', binV, load1V, fadV, ne_eq, not_true_eq_false, if_false, Nat.zero_add, hB.c1, hB.c2, hB.c3, w1, w2]
  refine s_ret1 ?_
  simp +decide only [p_fin_ret, resV, resOne, gv, Option.some.injEq, exists_eq_left']
  exact ⟨trivial, hx⟩

def degB (t : Tm) : Bool := (((decide (0 ≤ t.x) && decide (t.x ≤ 4)) && (decide (0 ≤ t.y) && decide (t.y ≤ 4))) && (decide (0 ≤ t.z) && decide (t.z ≤ 4))) && decide (t.x + t.y + t.z ≤ 4)
theorem hasDegree_ok (lim : Nat) (t : Tm) (H : AHeap) : ACalls Tryd.prog lim n_impl_hasDegree [tv t] H fun v H' => v = .bool (degB t) ∧ Ext H H' := by
  refine is_impl_hasDegree.go rfl ?_
  unfold c_impl_hasDegree
  refine s_reg ?_
  simp only [o_pure, o_eff, o_nil, POp.ev, Opd.ev, EOp.ev, env0, gu, gv, setD, List.set, Option.some.injEq, exists_eq_left', boxT]
  have hB := BoxT.mk' H t
  generalize H.alloc (tc t) = H1 at hB ⊢
  generalize H.next = p at hB ⊢
  have hx := hB.ext
  refine s_reg ?_
  simp only [o_pure, o_callF, POp.ev, Opd.ev, gv, setD, List.map, Option.some.injEq, exists_eq_left', load1V, fadV, Nat.zero_add, hB.c1]
  refine (inside_ok _ _ _ _ _).eq ?_
  unfold degB
  cases h2 : decide (0 ≤ t.x) && decide (t.x ≤ 4)
  · simp only [o_cont, o_pure, o_guard, gk_ft, o_nil, POp.ev, Opd.ev, gv, setD, List.set, Option.some.injEq, exists_eq_left', pickV]
    refine s_ret1 ?_
    simp +decide only [p_fin_ret, resV, resOne, gv, Option.some.injEq, exists_eq_left']
    exact ⟨by simp, hx⟩
  simp only [o_cont, o_pure, o_callF, o_guard, gk_tt, POp.ev, Opd.ev, gv, setD, List.map, Option.some.injEq, exists_eq_left', load1V, fadV, Nat.zero_add, hB.c2]
  refine (inside_ok _ _ _ _ _).eq ?_
  cases h3 : decide (0 ≤ t.y) && decide (t.y ≤ 4)
  · simp only [o_cont, o_pure, o_guard, gk_ft, o_nil, POp.ev, Opd.ev, gv, setD, List.set, Option.some.injEq, exists_eq_left', pickV]
    refine s_ret1 ?_
    simp +decide only [p_fin_ret, resV, resOne, gv, Option.some.injEq, exists_eq_left']
    exact ⟨by simp, hx⟩
  simp only [o_cont, o_pure, o_callF, o_guard, gk_tt, POp.ev, Opd.ev, gv, setD, List.map, Option.some.injEq, exists_eq_left', pickV, load1V, fadV, Nat.zero_add, hB.c3]
  refine (inside_ok _ _ _ _ _).eq ?_
  cases h4 : decide (0 ≤ t.z) && decide (t.z ≤ 4)
  · simp only [o_cont, o_pure, o_guard, gk_ft, o_nil, POp.ev, Opd.ev, gv, setD, List.set, Option.some.injEq, exists_eq_left', pickV]
    refine s_ret1 ?_
    simp +decide only [p_fin_ret, resV, resOne, gv, Option.some.injEq, exists_eq_left']
    exact ⟨by simp, hx⟩
  simp only [Bool.and_eq_true, decide_eq_true_eq] at h2 h3 h4
  simp only [o_cont, o_pure, o_callF, o_guard, gk_tt, POp.ev, Opd.ev, gv, setD, List.map, Option.some.injEq, exists_eq_left', pickV, hB.all]
  refine (degree_ok _ _ _ h2 h3 h4).mono ?_
  rintro _ H2 ⟨rfl, hx2⟩
  simp only [o_cont, o_pure, o_guard, gk_tt, o_nil, POp.ev, Opd.ev, gv, setD, List.set, Option.some.injEq, exists_eq_left', pickV, binV, ne_eq, not_true_eq_false, if_false]
  refine s_ret1 ?_
  simp +decide only [p_fin_ret, resV, resOne, gv, Option.some.injEq, exists_eq_left']
  exact ⟨by simp, hx.trans hx2⟩

def cmp3 (a b : Int) : Int := if a < b then -1 else if a > b then 1 else 0
theorem isNaN_ok (lim : Nat) (a : Int) (H : AHeap) : ACalls Tryd.prog lim n_cmp_isNaN_int [.int .i64 a] H fun v H' => v = .bool false ∧ H' = H := by
  refine is_cmp_isNaN_int.go rfl ?_
  unfold c_cmp_isNaN_int
  have h : (a != a) = false := by simp
  refine s_reg ?_
  simp only [o_pure, o_nil, POp.ev, Opd.ev, env0, gu, setD, List.set, Option.some.injEq, exists_eq_left']
  refine s_reg ?_
  simp only [o_pure, o_nil, POp.ev, Opd.ev, gv, setD, List.set, Option.some.injEq, exists_eq_left', binV, ne_eq, not_true_eq_false, if_false, h]
  refine s_ret1 ?_
  simp +decide only [p_fin_ret, resV, resOne, gv, Option.some.injEq, exists_eq_left']
theorem compare_ok (lim : Nat) (a b : Int) (H : AHeap) : ACalls Tryd.prog lim n_cmp_Compare_int [.int .i64 a, .int .i64 b] H fun v H' => v = .int .i64 (cmp3 a b) ∧ H' = H := by
  refine is_cmp_Compare_int.go rfl ?_
  unfold c_cmp_Compare_int cmp3
  refine s_reg ?_
  simp only [o_pure, o_nil, POp.ev, Opd.ev, env0, gu, setD, List.set, Option.some.injEq, exists_eq_left']
  refine s_reg ?_
  simp only [o_pure, o_callF, POp.ev, Opd.ev, gv, setD, List.map, Option.some.injEq, exists_eq_left']
  refine (isNaN_ok _ _ _).eq ?_
  simp only [o_cont, o_pure, o_nil, POp.ev, Opd.ev, gv, setD, List.set, Option.some.injEq, exists_eq_left']
  refine s_reg ?_
  simp only [o_pure, o_callF, POp.ev, Opd.ev, gv, setD, List.map, Option.some.injEq, exists_eq_left']
  refine (isNaN_ok _ _ _).eq ?_
  simp only [o_cont, o_pure, o_nil, POp.ev, Opd.ev, gv, setD, List.set, Option.some.injEq, exists_eq_left']
  refine s_test ?_
  simp only [o_pure, o_nil, POp.ev, Opd.ev, gv, setD, Option.some.injEq, exists_eq_left']
  refine Test.false_ (s_skip1 ?_)
  simp +decide only [p_seq_normal]
  refine s_test ?_
  simp only [o_pure, o_nil, POp.ev, Opd.ev, gv, setD, Option.some.injEq, exists_eq_left']
  refine Test.false_ (s_skip1 ?_)
  simp +decide only [p_seq_normal]
  refine s_test ?_
  simp only [o_pure, o_nil, POp.ev, Opd.ev, gv, setD, Option.some.injEq, exists_eq_left', binV, ne_eq, not_true_eq_false, if_false]
  refine Test.split (fun h => ?_) (fun h => ?_)
  · refine s_reg ?_
    simp only [o_pure, o_nil, POp.ev, Opd.ev, setD, List.set, Option.some.injEq, exists_eq_left']
    refine s_ret1 ?_
    simp +decide only [p_seq_ret, p_fin_ret, resV, resOne, gv, Option.some.injEq, exists_eq_left']
    rw [if_pos (by simpa using h)]
    trivial
  · refine s_skip1 ?_
    simp +decide only [p_seq_normal]
    refine s_test ?_
    simp only [o_pure, o_nil, POp.ev, Opd.ev, gv, setD, Option.some.injEq, exists_eq_left', binV, ne_eq, not_true_eq_false, if_false]
    refine Test.split (fun h2 => ?_) (fun h2 => ?_)
    · refine s_reg ?_
      simp only [o_pure, o_nil, POp.ev, Opd.ev, setD, List.set, Option.some.injEq, exists_eq_left']
      refine s_ret1 ?_
      simp +decide only [p_seq_ret, p_fin_ret, resV, resOne, gv, Option.some.injEq, exists_eq_left']
      rw [if_neg (by simpa using h), if_pos (by simpa using h2)]
      trivial
    · refine s_skip1 ?_
      simp +decide only [p_seq_normal]
      refine s_reg ?_
      simp only [o_pure, o_nil, POp.ev, Opd.ev, setD, List.set, Option.some.injEq, exists_eq_left']
      refine s_ret1 ?_
      simp +decide only [p_fin_ret, resV, resOne, gv, Option.some.injEq, exists_eq_left']
      rw [if_neg (by simpa using h), if_neg (by simpa using h2)]
      trivial

/-- the first that is not 0 -/
def orL : List Int → Int
  | [] => 0
  | x :: l => if x ≠ 0 then x else orL l
theorem or_ok (lim : Nat) (s : Value) (l : List Int) (H : AHeap) (hs : Sl H s l.length 1 (l.map vi)) (hn : l.length ≤ 1000) : ACalls Tryd.prog lim n_cmp_Or_int [s] H fun v H' => v = .int .i64 (orL l) ∧ H' = H := by
  refine is_cmp_Or_int.go rfl ?_
  unfold c_cmp_Or_int
  refine s_reg ?_
  simp only [o_pure, o_nil, POp.ev, Opd.ev, env0, gu, setD, List.set, Option.some.injEq, exists_eq_left']
  refine s_reg ?_
  simp only [o_pure, o_nil, POp.ev, Opd.ev, setD, List.set, Option.some.injEq, exists_eq_left']
  refine s_assoc (s_reg ?_)
  simp only [o_pure, o_nil, POp.ev, Opd.ev, gv, setD, List.set, Option.some.injEq, exists_eq_left', hs.lenV]
  refine s_block ?_
  refine s_loop1 (fun k e' H' => H' = H ∧ ∃ (i : Nat) (y : Value), i + k = l.length ∧ orL l = orL (l.drop i) ∧ e' = [s, .int .i64 0, .int .i64 0, y, s, .int .i64 l.length, .int .i64 i]) l.length ⟨rfl, 0, _, by omega, rfl, rfl⟩ ?_
  rintro k e' H ⟨rfl, i, y, hik, hall, rfl⟩
  refine s_test ?_
  simp only [o_pure, o_nil, POp.ev, Opd.ev, gv, setD, Option.some.injEq, exists_eq_left', binV, ne_eq, not_true_eq_false, if_false]
  refine Test.split (fun hlt => ?_) (fun hlt => ?_)
  · have hlt' : i < l.length := by simpa using hlt
    obtain ⟨b, o, h1, h2, h3⟩ := hs.cell .i64 (i := (i : Int)) (by omega) (by omega)
    rw [show (i : Int).toNat = i by omega, List.getElem?_map, List.getElem?_eq_getElem hlt'] at h3
    simp only [Option.map_some] at h3
    rw [List.drop_eq_getElem_cons hlt', orL] at hall
    refine s_skip1 ?_
    simp +decide only [p_seq_normal]
    refine s_block ?_
    refine s_reg ?_
    simp only [o_pure, o_nil, POp.ev, Opd.ev, gv, setD, List.set, Option.some.injEq, exists_eq_left', load1V, h1, h3]
    refine s_test1 ?_
    simp only [o_pure, o_nil, POp.ev, Opd.ev, gv, setD, Option.some.injEq, exists_eq_left', binV, ne_eq, not_true_eq_false, if_false]
    refine Test.split (fun h => ?_) (fun h => ?_)
    · refine s_reg ?_
      simp only [o_pure, o_nil, POp.ev, Opd.ev, gv, setD, List.set, Option.some.injEq, exists_eq_left']
      refine s_ret1 ?_
      simp +decide only [p_seq_ret, p_block_ret, p_fin_ret, resV, resOne, gv, Option.some.injEq, exists_eq_left']
      rw [if_pos (by simpa using h)] at hall
      rw [hall]
      trivial
    · refine s_skip1 ?_
      simp +decide only [p_seq_normal, p_block_normal]
      refine s_reg1 ?_
      simp only [o_pure, o_nil, POp.ev, Opd.ev, gv, setD, List.set, Option.some.injEq, exists_eq_left', binV, ne_eq, not_true_eq_false, if_false, add1 (i := i) (by omega)]
      simp +decide only [p_seq_normal]
      rw [if_neg (by simpa using h)] at hall
      exact Round.mk (k - 1) (by omega) ⟨rfl, i + 1, _, by omega, hall, rfl⟩
  · have hge : i = l.length := by simp at hlt; omega
    subst hge
    refine s_exit1 ?_
    simp +decide only [p_seq_normal, p_seq_exit, p_block_exit, reduceIte]
    refine s_reg ?_
    simp only [o_pure, o_nil, POp.ev, Opd.ev, gv, setD, List.set, Option.some.injEq, exists_eq_left']
    refine s_ret1 ?_
    simp +decide only [p_fin_ret, resV, resOne, gv, Option.some.injEq, exists_eq_left']
    rw [List.drop_length, orL] at hall
    rw [hall]
    trivial

theorem fill3i (a b c : Value) (k l m : Int) : fillV [a, b, c] [(0, 1, .int .i64 k), (1, 1, .int .i64 l), (2, 1, .int .i64 m)] = some [vi k, vi l, vi m] := by
  simp [fillV, cellsV]
def cmpT (a b : Tm) : Int := orL [cmp3 a.x b.x, cmp3 a.y b.y, cmp3 a.z b.z]
theorem compareTerms_ok (lim : Nat) (a b : Tm) (H : AHeap) : ACalls Tryd.prog lim n_impl_compareTerms [tv a, tv b] H fun v H' => v = .int .i64 (cmpT a b) ∧ Ext H H' := by
  refine is_impl_compareTerms.go rfl ?_
  unfold c_impl_compareTerms
  refine s_reg ?_
  simp only [o_pure, o_eff, o_nil, POp.ev, Opd.ev, EOp.ev, env0, gu, gv, setD, List.set, Option.some.injEq, exists_eq_left', boxT]
  have hA := BoxT.mk' H a
  have hB := BoxT.mk' (H.alloc (tc a)) b
  replace hA := hA.mono hB.ext
  generalize (H.alloc (tc a)).alloc (tc b) = H1 at hA hB ⊢
  generalize (H.alloc (tc a)).next = q at hB ⊢
  generalize H.next = p at hA ⊢
  have hx := hA.ext
  refine s_reg ?_
  simp only [o_pure, o_callN, POp.ev, Opd.ev, gv, setD, List.map, Option.some.injEq, exists_eq_left', load1V, fadV, Nat.zero_add, hA.c1, hB.c1, hA.c2, hB.c2, hA.c3, hB.c3]
  refine (compare_ok _ _ _ _).use ?_
  rintro _ HH ⟨rfl, hh⟩ _
  subst HH
  simp only [o_cont, o_callN, Opd.ev, gv, setD, List.map]
  refine (compare_ok _ _ _ _).use ?_
  rintro _ HH ⟨rfl, hh⟩ _
  subst HH
  simp only [o_cont, o_callF, Opd.ev, gv, setD, List.map]
  refine (compare_ok _ _ _ _).eq ?_
  have hlit : Sl (H1.alloc [vi (cmp3 a.x b.x), vi (cmp3 a.y b.y), vi (cmp3 a.z b.z)]) (.slice (some ⟨H1.next, 0, some 0⟩) 3 3) 3 1 [vi (cmp3 a.x b.x), vi (cmp3 a.y b.y), vi (cmp3 a.z b.z)] := Vec.sl (Vec.lit rfl)
  have hx2 := Ext.alloc H1 [vi (cmp3 a.x b.x), vi (cmp3 a.y b.y), vi (cmp3 a.z b.z)]
  have hbs : bsliceH H1 3 [.int .i64 0, .int .i64 0, .int .i64 0] [(0, 1, .int .i64 (cmp3 a.x b.x)), (1, 1, .int .i64 (cmp3 a.y b.y)), (2, 1, .int .i64 (cmp3 a.z b.z))] = some (.slice (some ⟨H1.next, 0, some 0⟩) 3 3, H1.alloc [vi (cmp3 a.x b.x), vi (cmp3 a.y b.y), vi (cmp3 a.z b.z)]) := by
    simp only [bsliceH, fill3i, Option.map_some]
  simp only [o_cont, o_eff, o_callF, Opd.ev, EOp.ev, gv, setD, List.map, Option.some.injEq, exists_eq_left', hbs]
  refine (or_ok _ _ [cmp3 a.x b.x, cmp3 a.y b.y, cmp3 a.z b.z] _ hlit (by simp)).eq ?_
  simp only [o_cont, o_pure, o_nil, POp.ev, Opd.ev, gv, setD, List.set, Option.some.injEq, exists_eq_left']
  refine s_ret1 ?_
  simp +decide only [p_fin_ret, resV, resOne, gv, Option.some.injEq, exists_eq_left']
  exact ⟨rfl, hx.trans hx2⟩
theorem cmp3_eq (a b : Int) : cmp3 a b = sgn3 (a - b) := by
  unfold cmp3 sgn3
  rcases Int.lt_trichotomy a b with h | h | h
  · rw [if_pos h, if_neg (by omega), if_pos (by omega)]
  · rw [if_neg (by omega), if_neg (by omega), if_neg (by omega), if_neg (by omega)]
  · rw [if_neg (by omega), if_pos h, if_pos (by omega)]
theorem sgn3_ne (n : Int) : sgn3 n ≠ 0 ↔ n ≠ 0 := by
  unfold sgn3
  rcases Int.lt_trichotomy n 0 with h | h | h
  · rw [if_neg (by omega), if_pos h]; omega
  · rw [if_neg (by omega), if_neg (by omega)]; omega
  · rw [if_pos h]; omega
theorem cmpT_eq {a b : Tm} : cmpT a b = ordT a b := by
  unfold cmpT ordT
  rw [cmp3_eq, cmp3_eq, cmp3_eq]
  simp only [orL]
  have z : ∀ n : Int, n = 0 → sgn3 n = 0 := by rintro n rfl; simp [sgn3]
  by_cases h1 : a.x = b.x
  · have s1 := z (b.x - b.x) (by omega)
    simp only [s1, h1, ne_eq, not_true_eq_false, if_false]
    by_cases h2 : a.y = b.y
    · have s2 := z (b.y - b.y) (by omega)
      simp only [s2, h2, not_true_eq_false, if_false]
      by_cases h3 : sgn3 (a.z - b.z) = 0
      · simp only [h3, not_true_eq_false, if_false]
      · simp only [h3, not_false_eq_true, if_true]
    · have s2 : sgn3 (a.y - b.y) ≠ 0 := (sgn3_ne _).2 (by omega)
      simp only [ne_eq] at s2
      simp only [s2, h2, not_false_eq_true, if_true]
  · have s1 : sgn3 (a.x - b.x) ≠ 0 := (sgn3_ne _).2 (by omega)
    simp only [ne_eq] at s1
    simp only [s1, h1, ne_eq, not_false_eq_true, if_true]

/-- what the implementation asks of the term at i -/
theorem stepT_impl (p : List Tm) (i : Nat) (t : Tm) : stepT p i t = (!decide (t.c = 0) && (decide (-1000 ≤ t.c) && decide (t.c ≤ 1000)) && degB t && (match prevT p i with | none => true | some u => !decide (ordT u t ≥ 0))) := by
  unfold stepT okTm degB
  cases prevT p i <;> cases decide (t.c = 0) <;> cases (decide (-1000 ≤ t.c) && decide (t.c ≤ 1000)) <;> simp

theorem isPoly_ok (lim : Nat) (s : Value) (p : List Tm) (H : AHeap) (hl : lim ≤ H.next) (hs : SlT H s p) (hn : p.length ≤ 1000000000) : ACalls Tryd.prog lim n_impl_isPoly [s] H fun v H' => v = .bool (goodP p) ∧ Ext H H' := by
  refine is_impl_isPoly.go rfl ?_
  unfold c_impl_isPoly
  refine s_reg ?_
  simp only [o_pure, o_nil, POp.ev, Opd.ev, env0, gu, setD, List.set, Option.some.injEq, exists_eq_left']
  refine s_assoc (s_reg ?_)
  simp only [o_pure, o_nil, POp.ev, Opd.ev, gv, setD, List.set, Option.some.injEq, exists_eq_left', hs.lenV]
  refine s_block ?_
  refine s_loop1 (fun k e' H' => ∃ (i : Nat) (x y : Value), i + k = p.length ∧ goodF none p = goodF (prevT p i) (p.drop i) ∧ Ext H H' ∧ e' = [s, .bool false, x, y, s, .int .i64 p.length, .int .i64 i]) p.length ⟨0, _, _, by omega, rfl, Ext.refl _, rfl⟩ ?_
  rintro k e' H' ⟨i, x, y, hik, hall, hx, rfl⟩
  have hnx := hx.next
  refine s_test ?_
  simp only [o_pure, o_nil, POp.ev, Opd.ev, gv, setD, Option.some.injEq, exists_eq_left', binV, ne_eq, not_true_eq_false, if_false]
  refine Test.split (fun hlt => ?_) (fun hlt => ?_)
  · have hlt' : i < p.length := by simpa using hlt
    obtain ⟨b1, o1, h1, hat⟩ := (hs.ext hx).at hlt'
    rw [goodF_step hlt'] at hall
    refine s_skip1 ?_
    simp +decide only [p_seq_normal]
    refine s_block ?_
    refine s_reg ?_
    simp only [o_pure, o_eff, o_nil, POp.ev, Opd.ev, EOp.ev, gv, setD, List.set, Option.some.injEq, exists_eq_left', h1, hat.all, store4_new (lim := lim) (H := H') (by omega)]
    have hB := BoxT.mk' H' p[i]
    generalize H'.alloc (tc p[i]) = H1 at hB ⊢
    generalize H'.next = q at hB hnx ⊢
    have hx1 := hx.trans hB.ext
    refine s_test1_I (!stepT p i p[i]) (Ext H1) ?_ (fun H2 hx2 hg => ?_) (fun H2 hx2 hg => ?_)
    · rw [stepT_impl]
      cases h6 : decide (p[i].c = 0)
      · have h6' : (p[i].c == 0) = false := by simpa using h6
        simp only [o_pure, o_callF, o_guard, gk_ff, POp.ev, Opd.ev, gv, setD, List.map, Option.some.injEq, exists_eq_left', binV, load1V, fadV, ne_eq, not_true_eq_false, if_false, Bool.not_false, Nat.zero_add, hB.c0, h6']
        refine (inside_ok _ _ _ _ _).eq ?_
        cases h7 : decide (-1000 ≤ p[i].c) && decide (p[i].c ≤ 1000)
        · simp only [o_cont, o_pure, o_guard, gk_ff, gk_tf, gk_u, o_nil, POp.ev, Opd.ev, gv, setD, Option.some.injEq, exists_eq_left', pickV, unV, Bool.not_false]
          simp [Ext.refl]
        · simp only [o_cont, o_pure, o_callF, o_guard, gk_ff, POp.ev, Opd.ev, gv, setD, List.map, Option.some.injEq, exists_eq_left', pickV, unV, Bool.not_true, hB.all]
          refine (hasDegree_ok _ _ _).mono ?_
          rintro _ H2 ⟨rfl, hx2⟩
          have hB2 := hB.mono hx2
          cases h5 : degB p[i]
          · simp only [o_cont, o_pure, o_guard, gk_ff, gk_tf, gk_u, o_nil, POp.ev, Opd.ev, gv, setD, Option.some.injEq, exists_eq_left', pickV, unV, Bool.not_false]
            simp [hx2]
          · cases i with
            | zero =>
              have d0 : decide (((0 : Nat) : Int) > 0) = false := by decide
              simp only [o_cont, o_pure, o_guard, gk_ff, gk_ft, o_nil, POp.ev, Opd.ev, gv, setD, Option.some.injEq, exists_eq_left', pickV, binV, unV, ne_eq, not_true_eq_false, if_false, Bool.not_true, d0]
              simp [prevT, hx2]
            | succ i =>
              have d0 : decide (((i + 1 : Nat) : Int) > 0) = true := decide_eq_true (by omega)
              have w1 : IntKind.i64.wrap (((i + 1 : Nat) : Int) - 1) = (i : Int) := by rw [IntKind.wrap_i64]; omega
              have hi : i < p.length := by omega
              obtain ⟨b2, o2, k1, hat2⟩ := ((hs.ext hx1).ext hx2).at hi
              have hpe : prevT p (i + 1) = some p[i] := List.getElem?_eq_getElem hi
              simp only [o_cont, o_pure, o_callF, o_guard, gk_tt, gk_ff, POp.ev, Opd.ev, gv, setD, List.map, Option.some.injEq, exists_eq_left', pickV, binV, unV, ne_eq, not_true_eq_false, if_false, Bool.not_true, d0, w1, k1, hat2.all, hB2.all]
              refine (compareTerms_ok _ _ _ _).mono ?_
              rintro _ H3 ⟨rfl, hx3⟩
              simp only [o_cont, o_pure, o_guard, gk_tt, gk_ff, o_nil, POp.ev, Opd.ev, gv, setD, Option.some.injEq, exists_eq_left', pickV, binV, ne_eq, not_true_eq_false, if_false, cmpT_eq]
              simp [hpe, hx2.trans hx3]
      · have h6' : (p[i].c == 0) = true := by simpa using h6
        simp only [o_pure, o_guard, gk_tf, gk_u, o_nil, POp.ev, Opd.ev, gv, setD, Option.some.injEq, exists_eq_left', pickV, binV, load1V, fadV, ne_eq, not_true_eq_false, if_false, Bool.not_true, Nat.zero_add, hB.c0, h6']
        simp [Ext.refl]
    · refine s_reg ?_
      simp only [o_pure, o_nil, POp.ev, Opd.ev, setD, List.set, Option.some.injEq, exists_eq_left']
      refine s_ret1 ?_
      simp +decide only [p_seq_ret, p_block_ret, p_fin_ret, resV, resOne, gv, Option.some.injEq, exists_eq_left']
      simp only [Bool.not_eq_true'] at hg
      refine ⟨?_, hx1.trans hx2⟩
      simp [goodP, hall, hg]
    · refine s_skip1 ?_
      simp +decide only [p_seq_normal, p_block_normal]
      refine s_reg1 ?_
      simp only [o_pure, o_nil, POp.ev, Opd.ev, gv, setD, List.set, Option.some.injEq, exists_eq_left', binV, ne_eq, not_true_eq_false, if_false, add1 (i := i) (by omega)]
      simp +decide only [p_seq_normal]
      simp only [Bool.not_eq_false'] at hg
      rw [hg, Bool.true_and] at hall
      exact Round.mk (k - 1) (by omega) ⟨i + 1, _, _, by omega, hall, hx1.trans hx2, rfl⟩
  · have hge : i = p.length := by simp at hlt; omega
    subst hge
    refine s_exit1 ?_
    simp +decide only [p_seq_normal, p_seq_exit, p_block_exit, reduceIte]
    refine s_reg ?_
    simp only [o_pure, o_nil, POp.ev, Opd.ev, gv, setD, List.set, Option.some.injEq, exists_eq_left', binV, ne_eq, not_true_eq_false, if_false, hs.lenV]
    refine s_ret1 ?_
    simp +decide only [p_fin_ret, resV, resOne, gv, Option.some.injEq, exists_eq_left']
    refine ⟨?_, hx⟩
    rw [List.drop_length] at hall
    simp [goodP, hall, goodF]

def expV (t : Tm) : Value := .agg #[vi t.x, vi t.y, vi t.z]
theorem exponents_ok (lim : Nat) (t : Tm) (H : AHeap) (hl : lim ≤ H.next) : ACalls Tryd.prog lim n_impl_Term_exponents [tv t] H fun v H' => v = expV t ∧ Ext H H' := by
  refine is_impl_Term_exponents.go rfl ?_
  unfold c_impl_Term_exponents
  refine s_reg ?_
  simp only [o_eff, o_nil, Opd.ev, EOp.ev, env0, gu, gv, setD, List.set, Option.some.injEq, exists_eq_left', boxT]
  have hB := BoxT.mk' H t
  have hn1 : (H.alloc (tc t)).next = H.next + 1 := rfl
  generalize H.alloc (tc t) = H1 at hB hn1 ⊢
  have hx2 := Ext.alloc H1 [.int .i64 0, .int .i64 0, .int .i64 0]
  have hB2 := hB.mono hx2
  generalize hp : H.next = p at hB hB2 hn1 hl ⊢
  refine s_reg ?_
  simp only [o_pure, o_eff, o_nil, POp.ev, Opd.ev, EOp.ev, gv, setD, List.map, Option.map_some, Option.some.injEq, exists_eq_left', load1V, fadV, Nat.zero_add, hB2.c1, hB2.c2, hB2.c3, fill3i, store3 (lim := lim) (b := H1.next) (by omega) (alloc_new _ _)]
  refine s_ret1 ?_
  simp +decide only [p_fin_ret, resV, resOne, gv, Option.some.injEq, exists_eq_left', load3 (put_same _ _ _)]
  exact ⟨rfl, Chg.ext hB2.ext (Chg.put _ _ _) (by omega)⟩

def expF (n : Int) (t : Tm) (u : Nat) : Bool := (decide (u > 0) || !(decide (0 ≥ n) && decide (t.x > 0))) && (decide (u > 1) || !(decide (1 ≥ n) && decide (t.y > 0))) && (decide (u > 2) || !(decide (2 ≥ n) && decide (t.z > 0)))
def ex (t : Tm) (u : Nat) : Int := if u = 0 then t.x else if u = 1 then t.y else t.z
theorem expF_step {n : Int} {t : Tm} {u : Nat} (h : u < 3) : expF n t u = (!(decide ((u : Int) ≥ n) && decide (ex t u > 0)) && expF n t (u + 1)) := by
  match u, h with
  | 0, _ => simp [expF, ex, Bool.and_assoc]
  | 1, _ => simp [expF, ex]
  | 2, _ => simp [expF, ex]
theorem aix_exp {t : Tm} {u : Nat} (h : u < 3) : aix1V 3 1 (expV t) (.int .i64 u) = some (vi (ex t u)) := by
  match u, h with
  | 0, _ => rfl
  | 1, _ => rfl
  | 2, _ => rfl
def needF (n : Int) : List Tm → Bool
  | [] => true
  | t :: l => expF n t 0 && needF n l

theorem needs_ok (lim : Nat) (s : Value) (p : List Tm) (n : Int) (H : AHeap) (hl : lim ≤ H.next) (hs : SlT H s p) (hn : p.length ≤ 1000000000) : ACalls Tryd.prog lim n_impl_needsAtMost [s, .int .i64 n] H fun v H' => v = .bool (needF n p) ∧ Ext H H' := by
  refine is_impl_needsAtMost.go rfl ?_
  unfold c_impl_needsAtMost
  refine s_reg ?_
  simp only [o_pure, o_nil, POp.ev, Opd.ev, env0, gu, setD, List.set, Option.some.injEq, exists_eq_left']
  refine s_assoc (s_reg ?_)
  simp only [o_pure, o_nil, POp.ev, Opd.ev, gv, setD, List.set, Option.some.injEq, exists_eq_left', hs.lenV]
  refine s_block ?_
  refine s_loop1 (fun k e' H' => ∃ (i : Nat) (x3 x4 x5 x9 x10 : Value), i + k = p.length ∧ needF n p = needF n (p.drop i) ∧ Ext H H' ∧ e' = [s, .int .i64 n, .bool false, x3, x4, x5, s, .int .i64 p.length, .int .i64 i, x9, x10]) p.length ⟨0, _, _, _, _, _, by omega, rfl, Ext.refl _, rfl⟩ ?_
  rintro k e' H' ⟨i, x3, x4, x5, x9, x10, hik, hall, hx, rfl⟩
  have hnx := hx.next
  refine s_test ?_
  simp only [o_pure, o_nil, POp.ev, Opd.ev, gv, setD, Option.some.injEq, exists_eq_left', binV, ne_eq, not_true_eq_false, if_false]
  refine Test.split (fun hlt => ?_) (fun hlt => ?_)
  · have hlt' : i < p.length := by simpa using hlt
    obtain ⟨b1, o1, h1, hat⟩ := (hs.ext hx).at hlt'
    rw [List.drop_eq_getElem_cons hlt', needF] at hall
    refine s_skip1 ?_
    simp +decide only [p_seq_normal]
    refine s_block ?_
    refine s_reg ?_
    simp only [o_pure, o_eff, o_nil, POp.ev, Opd.ev, EOp.ev, gv, setD, List.set, Option.some.injEq, exists_eq_left', h1, hat.all, store4_new (lim := lim) (H := H') (by omega)]
    have hB := BoxT.mk' H' p[i]
    generalize H'.alloc (tc p[i]) = H1 at hB ⊢
    generalize H'.next = q at hB hnx ⊢
    have hx1 := hx.trans hB.ext
    have hnx1 := hx1.next
    refine s_reg ?_
    simp only [o_pure, o_callF, POp.ev, Opd.ev, gv, setD, List.map, Option.some.injEq, exists_eq_left', hB.all]
    refine (exponents_ok lim _ _ (by omega)).mono ?_
    rintro _ H2 ⟨rfl, hx2⟩
    simp only [o_cont, o_pure, o_nil, POp.ev, Opd.ev, setD, List.set, Option.some.injEq, exists_eq_left']
    refine s_block1 ?_
    refine s_loop1 (fun j2 e' H2' => H2' = H2 ∧ ∃ (u : Nat) (x4 x5 : Value), u + j2 = 3 ∧ expF n p[i] 0 = expF n p[i] u ∧ e' = [s, .int .i64 n, .bool false, .pointer (some ⟨q, 0, none⟩), x4, x5, s, .int .i64 p.length, .int .i64 i, expV p[i], .int .i64 u]) 3 ⟨rfl, 0, _, _, by omega, rfl, rfl⟩ ?_
    rintro j2 e' H2 ⟨rfl, u, x4, x5, huj, hfr, rfl⟩
    refine s_test ?_
    simp only [o_pure, o_nil, POp.ev, Opd.ev, gv, setD, Option.some.injEq, exists_eq_left', binV, ne_eq, not_true_eq_false, if_false]
    refine Test.split (fun hlt3 => ?_) (fun hlt3 => ?_)
    · have hu : u < 3 := by simp at hlt3; omega
      rw [expF_step hu] at hfr
      refine s_skip1 ?_
      simp +decide only [p_seq_normal]
      refine s_block ?_
      refine s_reg ?_
      simp only [o_pure, o_nil, POp.ev, Opd.ev, gv, setD, List.set, Option.some.injEq, exists_eq_left', aix_exp hu]
      refine s_test1_same (decide ((u : Int) ≥ n) && decide (ex p[i] u > 0)) ?_ (fun hg => ?_) (fun hg => ?_)
      · cases h7 : decide ((u : Int) ≥ n)
        · simp only [o_pure, o_guard, gk_ft, o_nil, POp.ev, Opd.ev, gv, setD, Option.some.injEq, exists_eq_left', pickV, binV, ne_eq, not_true_eq_false, if_false, h7]
          simp
        · simp only [o_pure, o_guard, gk_tt, o_nil, POp.ev, Opd.ev, gv, setD, Option.some.injEq, exists_eq_left', pickV, binV, ne_eq, not_true_eq_false, if_false, h7]
          simp
      · refine s_reg ?_
        simp only [o_pure, o_nil, POp.ev, Opd.ev, setD, List.set, Option.some.injEq, exists_eq_left']
        refine s_ret1 ?_
        simp +decide only [p_seq_ret, p_block_ret, p_fin_ret, resV, resOne, gv, Option.some.injEq, exists_eq_left']
        rw [hg, Bool.not_true, Bool.false_and] at hfr
        rw [hfr, Bool.false_and] at hall
        rw [hall]
        exact ⟨rfl, hx1.trans hx2⟩
      · refine s_skip1 ?_
        simp +decide only [p_seq_normal, p_block_normal]
        refine s_reg1 ?_
        simp only [o_pure, o_nil, POp.ev, Opd.ev, gv, setD, List.set, Option.some.injEq, exists_eq_left', binV, ne_eq, not_true_eq_false, if_false, add1 (i := u) (by omega)]
        simp +decide only [p_seq_normal]
        rw [hg, Bool.not_false, Bool.true_and] at hfr
        exact Round.mk (j2 - 1) (by omega) ⟨rfl, u + 1, _, _, by omega, hfr, rfl⟩
    · have hu : u = 3 := by simp at hlt3; omega
      subst hu
      refine s_exit1 ?_
      simp +decide only [p_seq_normal, p_seq_exit, p_block_normal, p_block_exit, reduceIte]
      refine s_reg1 ?_
      simp only [o_pure, o_nil, POp.ev, Opd.ev, gv, setD, List.set, Option.some.injEq, exists_eq_left', binV, ne_eq, not_true_eq_false, if_false, add1 (i := i) (by omega)]
      simp +decide only [p_seq_normal]
      have h3 : expF n p[i] 3 = true := by simp [expF]
      rw [h3] at hfr
      rw [hfr, Bool.true_and] at hall
      exact Round.mk (k - 1) (by omega) ⟨i + 1, _, _, _, _, _, by omega, hall, hx1.trans hx2, rfl⟩
  · have hge : i = p.length := by simp at hlt; omega
    subst hge
    refine s_exit1 ?_
    simp +decide only [p_seq_normal, p_seq_exit, p_block_exit, reduceIte]
    refine s_reg ?_
    simp only [o_pure, o_nil, POp.ev, Opd.ev, setD, List.set, Option.some.injEq, exists_eq_left']
    refine s_ret1 ?_
    simp +decide only [p_fin_ret, resV, resOne, gv, Option.some.injEq, exists_eq_left']
    rw [List.drop_length, needF] at hall
    rw [hall]
    exact ⟨rfl, hx⟩
end Go.Proofs.YtooaafekllkpbaaDoor

/- Systems of polynomials, part 8 of the walk: the implementation's test of a system, its copy and its swapped system; no condition beyond stated lengths. -/
namespace Go.Proofs.YtooaafekllkpbaaDoor
open Go.Ab
set_option linter.unusedSimpArgs false
set_option linter.unusedVariables false

theorem degF_pos (k : Int) : ∀ (p : List Tm) (m : Int), decide (degF k m p > 0) = (decide (m > 0) || p.any fun t => decide (pw t k > 0))
  | [], m => by simp [degF]
  | t :: l, m => by
    rw [degF, degF_pos k l, List.any_cons, ← Bool.or_assoc]
    congr 1
    by_cases h : m > pw t k
    · rw [if_pos h]
      by_cases h2 : m > 0
      · simp [h2]
      · have : ¬ pw t k > 0 := by omega
        simp [h2, this]
    · rw [if_neg h]
      by_cases h2 : pw t k > 0
      · simp [h2]
      · have : ¬ m > 0 := by omega
        simp [h2, this]
theorem needF_eq (n : Nat) : ∀ p : List Tm, needF n p = ((decide (n > 0) || !p.any fun t => decide (t.x > 0)) && (decide (n > 1) || !p.any fun t => decide (t.y > 0)) && (decide (n > 2) || !p.any fun t => decide (t.z > 0)))
  | [] => by simp [needF]
  | t :: l => by
    have e0 : decide ((0 : Int) ≥ (n : Int)) = !decide (n > 0) := by by_cases h : n > 0 <;> simp [h] <;> omega
    have e1 : decide ((1 : Int) ≥ (n : Int)) = !decide (n > 1) := by by_cases h : n > 1 <;> simp [h] <;> omega
    have e2 : decide ((2 : Int) ≥ (n : Int)) = !decide (n > 2) := by by_cases h : n > 2 <;> simp [h] <;> omega
    rw [needF, needF_eq n l, expF, e0, e1, e2]
    simp only [List.any_cons]
    generalize decide (n > 0) = a
    generalize decide (n > 1) = b
    generalize decide (n > 2) = c
    generalize decide (t.x > 0) = x
    generalize decide (t.y > 0) = y
    generalize decide (t.z > 0) = z
    generalize (l.any fun t => decide (t.x > 0)) = u
    generalize (l.any fun t => decide (t.y > 0)) = v
    generalize (l.any fun t => decide (t.z > 0)) = w
    revert a b c x y z u v w
    decide
theorem need_from (n : Nat) (p : List Tm) : needF n p = fromB n p := by
  rw [needF_eq, fromB, degF_pos, degF_pos, degF_pos]
  simp [pw]

theorem isSystem_ok (lim : Nat) (s : Value) (ss : List (List Tm)) (H : AHeap) (hl : lim ≤ H.next) (hs : SlSS H s ss) (hn : ss.length ≤ 1000000) (hn2 : ∀ p ∈ ss, p.length ≤ 1000000) : ACalls Tryd.prog lim n_impl_isSystem [s] H fun v H' => v = .bool (goodSS ss) ∧ Ext H H' := by
  refine is_impl_isSystem.go rfl ?_
  unfold c_impl_isSystem
  refine s_reg ?_
  simp only [o_pure, o_nil, POp.ev, Opd.ev, env0, gu, setD, List.set, Option.some.injEq, exists_eq_left']
  refine s_assoc (s_reg ?_)
  simp only [o_pure, o_nil, POp.ev, Opd.ev, gv, setD, List.set, Option.some.injEq, exists_eq_left', hs.lenV]
  refine s_block ?_
  refine s_loop1 (fun j e' H' => ∃ (i : Nat) (x : Value), i + j = ss.length ∧ sysF ss.length ss = sysF ss.length (ss.drop i) ∧ Ext H H' ∧ e' = [s, .bool false, x, s, .int .i64 ss.length, .int .i64 i]) ss.length ⟨0, _, by omega, rfl, Ext.refl _, rfl⟩ ?_
  rintro j e' H' ⟨i, x, hik, hall, hx, rfl⟩
  have hnx := hx.next
  refine s_test ?_
  simp only [o_pure, o_nil, POp.ev, Opd.ev, gv, setD, Option.some.injEq, exists_eq_left', binV, ne_eq, not_true_eq_false, if_false]
  refine Test.split (fun hlt => ?_) (fun hlt => ?_)
  · have hlt' : i < ss.length := by simpa using hlt
    obtain ⟨b1, o1, s1, h1, h2, h3⟩ := (hs.ext hx).at hlt'
    have hpl := hn2 _ (List.getElem_mem hlt')
    rw [List.drop_eq_getElem_cons hlt', sysF] at hall
    refine s_skip1 ?_
    simp +decide only [p_seq_normal]
    refine s_block ?_
    refine s_reg ?_
    simp only [o_pure, o_nil, POp.ev, Opd.ev, gv, setD, List.set, Option.some.injEq, exists_eq_left', load1V, h1, h2]
    refine s_test1_I (!(goodP ss[i] && fromB ss.length ss[i])) (Ext H') ?_ (fun H2 hx2 hg => ?_) (fun H2 hx2 hg => ?_)
    · simp only [o_pure, o_callF, POp.ev, Opd.ev, gv, setD, List.map, Option.some.injEq, exists_eq_left']
      refine (isPoly_ok lim _ _ _ (by omega) h3 (by omega)).mono ?_
      rintro _ H2 ⟨rfl, hx2⟩
      have hnx2 := hx2.next
      cases hgp : goodP ss[i]
      · simp only [o_cont, o_pure, o_guard, gk_tf, o_nil, POp.ev, Opd.ev, gv, setD, Option.some.injEq, exists_eq_left', pickV, unV, Bool.not_false]
        simp [hx2]
      · simp only [o_cont, o_pure, o_callF, o_guard, gk_ff, POp.ev, Opd.ev, gv, setD, List.map, Option.some.injEq, exists_eq_left', unV, Bool.not_true, hs.lenV]
        refine (needs_ok lim _ _ _ _ (by omega) (h3.ext hx2) (by omega)).mono ?_
        rintro _ H3 ⟨rfl, hx3⟩
        simp only [o_cont, o_pure, o_guard, gk_ff, o_nil, POp.ev, Opd.ev, gv, setD, Option.some.injEq, exists_eq_left', pickV, unV, need_from]
        simp [hx2.trans hx3]
    · refine s_reg ?_
      simp only [o_pure, o_nil, POp.ev, Opd.ev, setD, List.set, Option.some.injEq, exists_eq_left']
      refine s_ret1 ?_
      simp +decide only [p_seq_ret, p_block_ret, p_fin_ret, resV, resOne, gv, Option.some.injEq, exists_eq_left']
      simp only [Bool.not_eq_true'] at hg
      refine ⟨?_, hx.trans hx2⟩
      rw [hg, Bool.false_and] at hall
      simp [goodSS, hall]
    · refine s_skip1 ?_
      simp +decide only [p_seq_normal, p_block_normal]
      refine s_reg1 ?_
      simp only [o_pure, o_nil, POp.ev, Opd.ev, gv, setD, List.set, Option.some.injEq, exists_eq_left', binV, ne_eq, not_true_eq_false, if_false, add1 (i := i) (by omega)]
      simp +decide only [p_seq_normal]
      simp only [Bool.not_eq_false'] at hg
      rw [hg, Bool.true_and] at hall
      exact Round.mk (j - 1) (by omega) ⟨i + 1, _, by omega, hall, hx.trans hx2, rfl⟩
  · have hge : i = ss.length := by simp at hlt; omega
    subst hge
    refine s_exit1 ?_
    simp +decide only [p_seq_normal, p_seq_exit, p_block_exit, reduceIte]
    refine s_reg ?_
    simp only [o_pure, o_callF, POp.ev, Opd.ev, gv, setD, List.map, Option.some.injEq, exists_eq_left', hs.lenV]
    refine (inside_ok _ _ _ _ _).eq ?_
    simp only [o_cont, o_pure, o_nil, POp.ev, Opd.ev, gv, setD, List.set, Option.some.injEq, exists_eq_left']
    refine s_ret1 ?_
    simp +decide only [p_fin_ret, resV, resOne, gv, Option.some.injEq, exists_eq_left']
    refine ⟨?_, hx⟩
    rw [List.drop_length, sysF] at hall
    simp only [goodSS, hall, Bool.true_and]

end Go.Proofs.YtooaafekllkpbaaDoor

/- Systems of polynomials, part 10 of the walk: terms that are in order already, sorted and collected; no condition beyond stated lengths. -/
namespace Go.Proofs.YtooaafekllkpbaaDoor
open Go.Ab
set_option linter.unusedSimpArgs false
set_option linter.unusedVariables false

theorem sgn3_neg (n : Int) : sgn3 (-n) = -sgn3 n := by
  unfold sgn3
  rcases Int.lt_trichotomy n 0 with h | h | h
  · rw [if_pos (by omega), if_neg (by omega), if_pos (by omega)]; omega
  · subst h; simp
  · rw [if_neg (by omega), if_pos (by omega), if_pos (by omega)]
theorem ordT_neg (a b : Tm) : ordT b a = -ordT a b := by
  unfold ordT
  have e1 : b.x - a.x = -(a.x - b.x) := by omega
  have e2 : b.y - a.y = -(a.y - b.y) := by omega
  have e3 : b.z - a.z = -(a.z - b.z) := by omega
  rw [e1, e2, e3, sgn3_neg, sgn3_neg, sgn3_neg]
  by_cases h1 : a.x = b.x
  · by_cases h2 : a.y = b.y
    · simp [h1, h2]
    · have h2' : ¬ b.y = a.y := fun h => h2 h.symm
      simp [h1, h2, h2']
  · have h1' : ¬ b.x = a.x := fun h => h1 h.symm
    simp [h1, h1']

/-- terms in strict order, none of which is 0 -/
def Sorted (l : List Tm) : Prop := ∀ (i : Nat) (h : i + 1 < l.length), ordT (l[i]'(by omega)) l[i + 1] < 0
abbrev cmpF : Value := .func (.func n_impl_compareTerms) #[] #[]

theorem collect1_ok (lim : Nat) (t : Tm) (H : AHeap) : ACalls Tryd.prog lim n_impl_collect_1 [tv t] H fun v H' => v = .bool (t.c == 0) ∧ Ext H H' := by
  refine is_impl_collect_1.go rfl ?_
  unfold c_impl_collect_1
  refine s_reg ?_
  simp only [o_pure, o_eff, o_nil, POp.ev, Opd.ev, EOp.ev, env0, gu, gv, setD, List.set, Option.some.injEq, exists_eq_left', boxT]
  have hB := BoxT.mk' H t
  generalize H.alloc (tc t) = H1 at hB ⊢
  generalize H.next = p at hB ⊢
  refine s_reg ?_
  simp only [o_pure, o_nil, POp.ev, Opd.ev, gv, setD, List.set, Option.some.injEq, exists_eq_left', binV, load1V, fadV, ne_eq, not_true_eq_false, if_false, Nat.zero_add, hB.c0]
  refine s_ret1 ?_
  simp +decide only [p_fin_ret, resV, resOne, gv, Option.some.injEq, exists_eq_left']
  exact ⟨trivial, hB.ext⟩

abbrev delF : Value := .func (.func n_impl_collect_1) #[] #[]
theorem vecT_nil (H : AHeap) (b : Nat) : VecT H b (.slice none 0 0) [] := Vec.nil _ _ _
/-- terms put behind a list of one's own -/
theorem appendT {lim : Nat} {H : AHeap} {b : Nat} {v x : Value} {l m : List Tm} (h : VecT H b v l) (hx : SlT H x m) (hl : lim ≤ b) (hn : l.length + m.length ≤ 1000000) :
    ∃ v' H' b', appendH lim H 4 32 v x = some (v', H') ∧ VecT H' b' v' (l ++ m) ∧ (b' = b ∨ H.next ≤ b') ∧ (l ++ m ≠ [] → b' < H'.next) ∧ Chg b H H' := by
  obtain ⟨v', H', b', h1, h2, h3, h4, h5⟩ := Vec.append h (lim := lim) hl hx (by decide) (bytes := 32) (by omega)
  have h2' : VecT H' b' v' (l ++ m) := by
    unfold VecT
    rw [List.length_append, tcs_append]
    exact h2
  refine ⟨v', H', b', h1, h2', h3.imp id fun h => by omega, fun hne => (Vec.blk h2' (fun e => hne (List.length_eq_zero_iff.1 e))).elim fun _ h => h.2, h4⟩
/-- one term put behind a list of one's own -/
theorem pushT {lim : Nat} {H : AHeap} {b : Nat} {v : Value} {l : List Tm} (h : VecT H b v l) (t : Tm) (hl : lim ≤ b) (hn : l.length ≤ 100000) :
    ∃ v' H' b', appendH lim (H.alloc (tc t)) 4 32 v (.slice (some ⟨H.next, 0, some 0⟩) 1 1) = some (v', H') ∧ VecT H' b' v' (l ++ [t]) ∧ (b' = b ∨ H.next ≤ b') ∧ b' < H'.next ∧ Chg b H H' := by
  obtain ⟨v', H', b', h1, h2, h3, h4, h5⟩ := appendT (VecT.ext h (Ext.alloc H (tc t))) (sl_one H t) hl (by simp; omega)
  exact ⟨v', H', b', h1, h2, h3.imp id fun h => Nat.le_trans (Nat.le_succ _) h, h4 (by simp), (Chg.of_ext (Ext.alloc _ _)).trans h5⟩

end Go.Proofs.YtooaafekllkpbaaDoor

/- Systems of polynomials, part 16 of the walk: insertion sort of any terms, in place; no condition beyond stated lengths. -/
namespace Go.Proofs.YtooaafekllkpbaaDoor
open Go.Ab
set_option linter.unusedSimpArgs false
set_option linter.unusedVariables false

/-! ### the order -/
theorem sgn3_lt (n : Int) : sgn3 n < 0 ↔ n < 0 := by
  unfold sgn3
  rcases Int.lt_trichotomy n 0 with h | h | h
  · rw [if_neg (by omega), if_pos h]; omega
  · rw [if_neg (by omega), if_neg (by omega)]; omega
  · rw [if_pos h]; omega
theorem ordT_lt (a b : Tm) : ordT a b < 0 ↔ a.x < b.x ∨ (a.x = b.x ∧ (a.y < b.y ∨ (a.y = b.y ∧ a.z < b.z))) := by
  unfold ordT
  by_cases h1 : a.x = b.x
  · by_cases h2 : a.y = b.y
    · rw [if_neg (by simp [h1]), if_neg (by simp [h2]), sgn3_lt]; omega
    · rw [if_neg (by simp [h1]), if_pos h2, sgn3_lt]; omega
  · rw [if_pos h1, sgn3_lt]; omega
theorem ordT_trans {a b c : Tm} (h1 : ordT a b < 0) (h2 : ordT b c < 0) : ordT a c < 0 := by
  rw [ordT_lt] at *
  omega
theorem ordT_zero (a b : Tm) : ordT a b = 0 ↔ a.x = b.x ∧ a.y = b.y ∧ a.z = b.z := by
  have h1 := ordT_lt a b
  have h2 := ordT_lt b a
  have h3 := ordT_neg a b
  omega

/-! ### a term put in from behind -/
def insRev (t : Tm) : List Tm → List Tm
  | [] => [t]
  | x :: r => if ordT t x < 0 then x :: insRev t r else t :: x :: r
def insB (P : List Tm) (t : Tm) : List Tm := (insRev t P.reverse).reverse
theorem insB_nil (t : Tm) : insB [] t = [t] := rfl
theorem insB_lt {P : List Tm} {x t : Tm} (h : ordT t x < 0) : insB (P ++ [x]) t = insB P t ++ [x] := by
  simp [insB, insRev, h]
theorem insB_ge {P : List Tm} {x t : Tm} (h : ¬ ordT t x < 0) : insB (P ++ [x]) t = P ++ [x, t] := by
  simp [insB, insRev, h]
theorem insB_length (P : List Tm) (t : Tm) : (insB P t).length = P.length + 1 := by
  have : ∀ l : List Tm, (insRev t l).length = l.length + 1 := by
    intro l
    induction l with
    | nil => rfl
    | cons x r ih =>
      unfold insRev
      split
      · simp [ih]
      · simp
  simp [insB, this]
def isortF (P : List Tm) : List Tm → List Tm
  | [] => P
  | t :: l => isortF (insB P t) l
theorem isortF_length : ∀ (l P : List Tm), (isortF P l).length = P.length + l.length
  | [], P => by simp [isortF]
  | t :: l, P => by rw [isortF, isortF_length l, insB_length, List.length_cons]; omega

theorem swap_at {A B : List Tm} {x y : Tm} : ((A ++ x :: y :: B).set (A.length + 1) x).set A.length y = A ++ y :: x :: B := by
  rw [List.set_append_right _ _ (by omega)]
  have : A.length + 1 - A.length = 1 := by omega
  rw [this, List.set_append_right _ _ (by omega), Nat.sub_self]
  rfl

theorem VecT.swap {lim : Nat} {H : AHeap} {b : Nat} {v : Value} {A B : List Tm} {x y : Tm} (h : VecT H b v (A ++ x :: y :: B)) (hl : lim ≤ b) :
    ∃ H1 H2, storeH lim H 4 (.pointer (some ⟨b, (A.length + 1) * 4, none⟩)) (tv x) = some (undef, H1) ∧ storeH lim H1 4 (.pointer (some ⟨b, A.length * 4, none⟩)) (tv y) = some (undef, H2) ∧ VecT H2 b v (A ++ y :: x :: B) ∧ Chg b H H2 ∧ H2.next = H.next := by
  obtain ⟨cs1, h1, g1⟩ := VecT.putT (lim := lim) h hl (i := A.length + 1) (by simp) x
  obtain ⟨cs2, h2, g2⟩ := VecT.putT (lim := lim) g1 hl (i := A.length) (by simp) y
  rw [swap_at] at g2
  exact ⟨_, _, h1, h2, g2, (Chg.put b H cs1).trans (Chg.put b _ cs2), rfl⟩

/-- insertion sort of the part from a to b -/
theorem insSort2_ok (lim : Nat) (s : Value) (blk : Nat) (A M B : List Tm) (H : AHeap) (hs : VecT H blk s (A ++ M ++ B)) (hl : lim ≤ blk) (hb : blk < H.next ∨ M = []) (hn : (A ++ M ++ B).length ≤ 100000) :
    ACalls Tryd.prog lim n_slices_insertionSortCmpFunc_impl_Term [s, .int .i64 A.length, .int .i64 ((A.length + M.length : Nat) : Int), cmpF] H fun v H' => VecT H' blk s (A ++ isortF [] M ++ B) ∧ Chg blk H H' := by
  have hlen : A.length + M.length + B.length ≤ 100000 := by simpa [Nat.add_assoc] using hn
  refine is_slices_insertionSortCmpFunc_impl_Term.go rfl ?_
  unfold c_slices_insertionSortCmpFunc_impl_Term
  refine s_reg ?_
  simp only [o_pure, o_nil, POp.ev, Opd.ev, env0, gu, gv, setD, List.set, Option.some.injEq, exists_eq_left', binV, ne_eq, not_true_eq_false, if_false, add1 (i := A.length) (by omega)]
  refine s_block1 ?_
  cases hM : M with
  | nil =>
    subst hM
    refine s_loop1 (fun k e' H' => H' = H ∧ e' = [s, .int .i64 A.length, .int .i64 ((A.length + ([] : List Tm).length : Nat) : Int), cmpF, .int .i64 ((A.length + 1 : Nat) : Int), undef]) 0 ⟨rfl, rfl⟩ ?_
    rintro k e' H' ⟨rfl, rfl⟩
    have hd : decide (((A.length + 1 : Nat) : Int) < ((A.length + ([] : List Tm).length : Nat) : Int)) = false := decide_eq_false (by simp; omega)
    refine s_test ?_
    simp only [o_pure, o_nil, POp.ev, Opd.ev, gv, setD, Option.some.injEq, exists_eq_left', binV, ne_eq, not_true_eq_false, if_false, hd]
    refine Test.false_ (s_exit1 ?_)
    simp +decide only [p_seq_exit, p_block_exit, p_fin_normal, reduceIte, resV, resL, Option.some.injEq, exists_eq_left', Option.map_some]
    exact ⟨by simpa [isortF] using hs, Chg.refl _ _⟩
  | cons m0 M0 =>
  rw [← hM]
  have hMl : 1 ≤ M.length := by rw [hM]; simp
  have hblk : blk < H.next := by
    rcases hb with hb | hb
    · exact hb
    · rw [hM] at hb; cases hb
  -- P: the part that is in order; R: what is to come
  refine s_loop1 (fun k e' H' => ∃ (P R : List Tm) (x5 : Value), 1 ≤ P.length ∧ P.length + R.length = M.length ∧ R.length = k ∧ isortF P R = isortF [] M ∧ VecT H' blk s (A ++ P ++ R ++ B) ∧ Chg blk H H' ∧
    e' = [s, .int .i64 A.length, .int .i64 ((A.length + M.length : Nat) : Int), cmpF, .int .i64 ((A.length + P.length : Nat) : Int), x5]) M0.length ⟨[m0], M0, _, by simp, by rw [hM]; simp; omega, rfl, by rw [hM]; rfl, by rw [hM] at hs; simpa using hs, Chg.refl _ _, rfl⟩ ?_
  rintro k e' H' ⟨P, R, x5, hP1, hPR, hRk, hiso, hv, hc, rfl⟩
  have hnc := hc.next
  refine s_test ?_
  simp only [o_pure, o_nil, POp.ev, Opd.ev, gv, setD, Option.some.injEq, exists_eq_left', binV, ne_eq, not_true_eq_false, if_false]
  refine Test.split (fun hlt => ?_) (fun hlt => ?_)
  · have hlt' : P.length < M.length := by simp at hlt; omega
    obtain ⟨t, R', rfl⟩ : ∃ t R', R = t :: R' := by
      cases R with
      | nil => simp at hPR; omega
      | cons t R' => exact ⟨t, R', rfl⟩
    simp only [List.length_cons] at hPR hRk
    refine s_skip1 ?_
    simp +decide only [p_seq_normal]
    refine s_block ?_
    refine s_reg ?_
    simp only [o_pure, o_nil, POp.ev, Opd.ev, gv, setD, List.set, Option.some.injEq, exists_eq_left']
    refine s_block1 ?_
    refine s_loop1 (fun k2 e' H2 => ∃ (P1 P2 : List Tm), P = P1 ++ P2 ∧ P1.length = k2 ∧ insB P t = insB P1 t ++ P2 ∧ VecT H2 blk s (A ++ (P1 ++ t :: P2) ++ R' ++ B) ∧ Chg blk H H2 ∧
      e' = [s, .int .i64 A.length, .int .i64 ((A.length + M.length : Nat) : Int), cmpF, .int .i64 ((A.length + P.length : Nat) : Int), .int .i64 ((A.length + P1.length : Nat) : Int)]) P.length ⟨P, [], by simp, rfl, by simp, by simpa using hv, hc, rfl⟩ ?_
    rintro k2 e' H2 ⟨P1, P2, hPP, hk2, hins, hv2, hc2, rfl⟩
    have hnc2 := hc2.next
    have leave : ∀ (X : List Tm) (H3 : AHeap), X = insB P t → VecT H3 blk s (A ++ X ++ R' ++ B) → Chg blk H H3 →
        Round (fun k e' H' => ∃ (P R : List Tm) (x5 : Value), 1 ≤ P.length ∧ P.length + R.length = M.length ∧ R.length = k ∧ isortF P R = isortF [] M ∧ VecT H' blk s (A ++ P ++ R ++ B) ∧ Chg blk H H' ∧
          e' = [s, .int .i64 A.length, .int .i64 ((A.length + M.length : Nat) : Int), cmpF, .int .i64 ((A.length + P.length : Nat) : Int), x5]) k [s, .int .i64 A.length, .int .i64 ((A.length + M.length : Nat) : Int), cmpF, .int .i64 ((A.length + P.length + 1 : Nat) : Int), .int .i64 ((A.length + P1.length : Nat) : Int)] H3 := by
      rintro X H3 rfl hv3 hc3
      have hil := insB_length P t
      exact Round.mk (k - 1) (by omega) ⟨insB P t, R', _, by omega, by omega, by omega, hiso, hv3, hc3, by rw [hil]; rfl⟩
    refine s_test ?_
    rcases List.eq_nil_or_concat P1 with rfl | ⟨P0, x, hP1e⟩
    · -- the term has come to the front
      have hd : decide (((A.length + ([] : List Tm).length : Nat) : Int) > (A.length : Int)) = false := decide_eq_false (by simp)
      simp only [o_pure, o_guard, gk_ft, o_nil, POp.ev, Opd.ev, gv, setD, Option.some.injEq, exists_eq_left', pickV, binV, ne_eq, not_true_eq_false, if_false, hd]
      refine Test.false_ (s_exit1 ?_)
      simp +decide only [p_seq_normal, p_seq_exit, p_block_normal, p_block_exit, p_fin_normal, reduceIte, resV, resL, Option.some.injEq, exists_eq_left', Option.map_some]
      refine s_reg1 ?_
      simp only [o_pure, o_nil, POp.ev, Opd.ev, gv, setD, List.set, Option.some.injEq, exists_eq_left', binV, ne_eq, not_true_eq_false, if_false, add1 (i := A.length + P.length) (by omega)]
      simp +decide only [p_seq_normal]
      exact leave _ _ (by rw [hins, insB_nil]; rfl) hv2 hc2
    · rw [List.concat_eq_append] at hP1e
      subst hP1e
      have hsh : A ++ (P0 ++ [x] ++ t :: P2) ++ R' ++ B = (A ++ P0) ++ x :: t :: (P2 ++ R' ++ B) := by simp
      rw [hsh] at hv2
      have hPl : (P0 ++ [x]).length = P0.length + 1 := by simp
      have hd : decide (((A.length + (P0 ++ [x]).length : Nat) : Int) > (A.length : Int)) = true := decide_eq_true (by rw [hPl]; omega)
      have hPlen : P.length = P0.length + 1 + P2.length := by rw [hPP]; simp; omega
      have hw : IntKind.i64.wrap (((A.length + (P0 ++ [x]).length : Nat) : Int) - 1) = ((A.length + P0.length : Nat) : Int) := by rw [hPl, IntKind.wrap_i64]; omega
      have hidx : A.length + (P0 ++ [x]).length = (A ++ P0).length + 1 := by rw [hPl]; simp; omega
      have hidx0 : A.length + P0.length = (A ++ P0).length := by simp
      obtain ⟨j1, a1⟩ := VecT.at hv2 (i := (A ++ P0).length + 1) (by simp; omega)
      obtain ⟨j2, a2⟩ := VecT.at hv2 (i := (A ++ P0).length) (by simp)
      have e1 : ((A ++ P0) ++ x :: t :: (P2 ++ R' ++ B))[(A ++ P0).length + 1]'(by simp; omega) = t := by
        rw [List.getElem_append_right (by omega)]
        simp
      have e2 : ((A ++ P0) ++ x :: t :: (P2 ++ R' ++ B))[(A ++ P0).length]'(by simp) = x := by
        rw [List.getElem_append_right (by omega)]
        simp
      rw [e1] at a1
      rw [e2] at a2
      rw [hidx] at hd hw ⊢
      rw [hidx0] at hw
      simp only [o_callT, callV_fn, o_pure, o_guard, gk_tt, POp.ev, Opd.ev, gv, setD, List.map, Option.some.injEq, exists_eq_left', binV, ne_eq, not_true_eq_false, if_false, hd, hw, j1, a1.all, j2, a2.all]
      refine (compareTerms_ok _ _ _ _).mono ?_
      rintro _ H3 ⟨rfl, hx3⟩
      have hv3 := VecT.ext hv2 hx3
      have hc3 := hc2.trans (Chg.of_ext hx3)
      simp only [o_cont, o_pure, o_guard, gk_tt, o_nil, POp.ev, Opd.ev, gv, setD, Option.some.injEq, exists_eq_left', pickV, binV, ne_eq, not_true_eq_false, if_false, cmpT_eq]
      refine Test.split (fun hg => ?_) (fun hg => ?_)
      · have hlt3 : ordT t x < 0 := by simpa using hg
        obtain ⟨j1, a1⟩ := VecT.at hv3 (i := (A ++ P0).length + 1) (by simp; omega)
        obtain ⟨j2, a2⟩ := VecT.at hv3 (i := (A ++ P0).length) (by simp)
        rw [e1] at a1
        rw [e2] at a2
        obtain ⟨H4, H5, t1, t2, hv5, hc5, hn5⟩ := VecT.swap (lim := lim) hv3 hl
        refine s_skip1 ?_
        simp +decide only [p_seq_normal]
        refine s_block ?_
        refine s_reg1 ?_
        simp only [o_pure, o_eff, o_nil, POp.ev, Opd.ev, EOp.ev, gv, setD, Option.some.injEq, exists_eq_left', binV, ne_eq, not_true_eq_false, if_false, hw, j1, a1.all, j2, a2.all, t1, t2]
        simp +decide only [p_seq_normal, p_block_normal]
        refine s_reg1 ?_
        simp only [o_pure, o_nil, POp.ev, Opd.ev, gv, setD, List.set, Option.some.injEq, exists_eq_left', binV, ne_eq, not_true_eq_false, if_false, hw]
        simp +decide only [p_seq_normal]
        refine Round.mk (k2 - 1) (by omega) ⟨P0, x :: P2, by rw [hPP]; simp, by omega, ?_, ?_, hc3.trans hc5, by rw [← hidx0]⟩
        · rw [hins, insB_lt hlt3]
          simp
        · have : A ++ (P0 ++ t :: (x :: P2)) ++ R' ++ B = (A ++ P0) ++ t :: x :: (P2 ++ R' ++ B) := by simp
          rw [this]
          exact hv5
      · have hge3 : ¬ ordT t x < 0 := by simpa using hg
        refine s_exit1 ?_
        simp +decide only [p_seq_normal, p_seq_exit, p_block_normal, p_block_exit, p_fin_normal, reduceIte, resV, resL, Option.some.injEq, exists_eq_left', Option.map_some]
        refine s_reg1 ?_
        simp only [o_pure, o_nil, POp.ev, Opd.ev, gv, setD, List.set, Option.some.injEq, exists_eq_left', binV, ne_eq, not_true_eq_false, if_false, add1 (i := A.length + P.length) (by omega)]
        simp +decide only [p_seq_normal]
        rw [← hidx]
        refine leave _ _ ?_ (by rw [← hsh] at hv3; exact hv3) hc3
        rw [hins, insB_ge hge3]
        simp
  · have hge : P.length = M.length := by simp at hlt; omega
    have hR0 : R = [] := List.length_eq_zero_iff.1 (by omega)
    subst hR0
    refine s_exit1 ?_
    simp +decide only [p_seq_exit, p_block_exit, p_fin_normal, reduceIte, resV, resL, Option.some.injEq, exists_eq_left', Option.map_some]
    rw [isortF] at hiso
    rw [← hiso]
    exact ⟨by simpa using hv, hc⟩
end Go.Proofs.YtooaafekllkpbaaDoor

/- Lists of terms, plain law: stable merging and insertion sort; no condition beyond stated order. -/
namespace Go.Proofs.YtooaafekllkpbaaDoor
open Go.Ab
set_option linter.unusedSimpArgs false
set_option linter.unusedVariables false

/-- a does not come behind b -/
abbrev leT (a b : Tm) : Prop := ¬ ordT b a < 0
theorem leT_trans {a b c : Tm} (h1 : leT a b) (h2 : leT b c) : leT a c := by
  have e1 := ordT_lt b a
  have e2 := ordT_lt c b
  have e3 := ordT_lt c a
  unfold leT at *
  omega
theorem lt_le_trans {a b c : Tm} (h1 : ordT a b < 0) (h2 : leT b c) : ordT a c < 0 := by
  have e1 := ordT_lt a b
  have e2 := ordT_lt c b
  have e3 := ordT_lt a c
  unfold leT at *
  omega
theorem le_lt_trans {a b c : Tm} (h1 : leT a b) (h2 : ordT b c < 0) : ordT a c < 0 := by
  have e1 := ordT_lt b a
  have e2 := ordT_lt b c
  have e3 := ordT_lt a c
  unfold leT at *
  omega
theorem lt_le {a b : Tm} (h : ordT a b < 0) : leT a b := by
  have := ordT_neg a b
  unfold leT
  omega
def WS (l : List Tm) : Prop := l.Pairwise leT

/-! ### merging -/
def mIn (x : Tm) (f : List Tm → List Tm) : List Tm → List Tm
  | [] => x :: f []
  | y :: R => if ordT y x < 0 then y :: mIn x f R else x :: f (y :: R)
def mergeF : List Tm → List Tm → List Tm
  | [], R => R
  | x :: L, R => mIn x (mergeF L) R
theorem mergeF_nil : ∀ L : List Tm, mergeF L [] = L
  | [] => rfl
  | x :: L => by rw [mergeF, mIn, mergeF_nil L]
theorem mergeF_nil_l (R : List Tm) : mergeF [] R = R := rfl
theorem mergeF_cons (x y : Tm) (L R : List Tm) : mergeF (x :: L) (y :: R) = if ordT y x < 0 then y :: mergeF (x :: L) R else x :: mergeF L (y :: R) := by
  simp only [mergeF, mIn]
theorem mem_mergeF {t : Tm} : ∀ {L R : List Tm}, t ∈ mergeF L R ↔ t ∈ L ∨ t ∈ R
  | [], R => by simp [mergeF]
  | x :: L, [] => by rw [mergeF_nil]; simp
  | x :: L, y :: R => by
    rw [mergeF_cons]
    split
    · rw [List.mem_cons, mem_mergeF (L := x :: L) (R := R), List.mem_cons, List.mem_cons]
      constructor
      · rintro (h | h | h)
        · exact .inr (.inl h)
        · exact .inl h
        · exact .inr (.inr h)
      · rintro (h | h | h)
        · exact .inr (.inl h)
        · exact .inl h
        · exact .inr (.inr h)
    · rw [List.mem_cons, mem_mergeF (L := L) (R := y :: R), List.mem_cons, List.mem_cons]
      constructor
      · rintro (h | h | h)
        · exact .inl (.inl h)
        · exact .inl (.inr h)
        · exact .inr h
      · rintro ((h | h) | h)
        · exact .inl h
        · exact .inr (.inl h)
        · exact .inr (.inr h)
theorem mergeF_length : ∀ (L R : List Tm), (mergeF L R).length = L.length + R.length
  | [], R => by simp [mergeF]
  | x :: L, [] => by rw [mergeF_nil]; rfl
  | x :: L, y :: R => by
    rw [mergeF_cons]
    split
    · rw [List.length_cons, mergeF_length (x :: L) R]; simp; omega
    · rw [List.length_cons, mergeF_length L (y :: R)]; simp; omega
theorem mergeF_split : ∀ (L1 R1 L2 R2 : List Tm), (∀ l ∈ L1, ∀ r ∈ R2, leT l r) → (∀ r ∈ R1, ∀ l ∈ L2, ordT r l < 0) → mergeF (L1 ++ L2) (R1 ++ R2) = mergeF L1 R1 ++ mergeF L2 R2
  | [], [], L2, R2, _, _ => rfl
  | [], y :: R1, [], R2, _, _ => rfl
  | [], y :: R1, l :: L2, R2, h1, h2 => by
    have h : ordT y l < 0 := h2 y (by simp) l (by simp)
    have ih := mergeF_split [] R1 (l :: L2) R2 (by simp) (fun r hr k hk => h2 r (by simp [hr]) k hk)
    simp only [List.nil_append, List.cons_append] at ih ⊢
    rw [mergeF_cons, if_pos h, ih]
    rfl
  | x :: L1, [], L2, [], h1, _ => by simp [mergeF_nil]
  | x :: L1, [], L2, r :: R2, h1, h2 => by
    have h : ¬ ordT r x < 0 := h1 x (by simp) r (by simp)
    have ih := mergeF_split L1 [] L2 (r :: R2) (fun l hl k hk => h1 l (by simp [hl]) k hk) (by simp)
    simp only [List.nil_append, List.cons_append] at ih ⊢
    rw [mergeF_cons, if_neg h, ih, mergeF_nil, mergeF_nil]
    rfl
  | x :: L1, y :: R1, L2, R2, h1, h2 => by
    simp only [List.cons_append]
    rw [mergeF_cons, mergeF_cons]
    split
    · have ih := mergeF_split (x :: L1) R1 L2 R2 h1 (fun r hr k hk => h2 r (by simp [hr]) k hk)
      rw [List.cons_append] at ih
      rw [ih]; rfl
    · have ih := mergeF_split L1 (y :: R1) L2 R2 (fun l hl k hk => h1 l (by simp [hl]) k hk) h2
      rw [List.cons_append] at ih
      rw [ih]; rfl

/-! ### one term put in from behind -/
theorem insB_split {P1 P2 : List Tm} {t : Tm} (h1 : ∀ x ∈ P1, leT x t) (h2 : ∀ x ∈ P2, ordT t x < 0) : insB (P1 ++ P2) t = P1 ++ t :: P2 := by
  have key : ∀ (n : Nat) (P2 : List Tm), P2.length = n → (∀ x ∈ P2, ordT t x < 0) → insB (P1 ++ P2) t = P1 ++ t :: P2 := by
    intro n
    induction n with
    | zero =>
      intro P2 hn _
      have : P2 = [] := List.length_eq_zero_iff.1 hn
      subst this
      rcases List.eq_nil_or_concat P1 with rfl | ⟨Q, x, hQ⟩
      · rfl
      · rw [List.concat_eq_append] at hQ
        subst hQ
        rw [List.append_nil, insB_ge (h1 x (by simp))]
        simp
    | succ n ih =>
      intro P2 hn h
      rcases List.eq_nil_or_concat P2 with rfl | ⟨Q, x, hQ⟩
      · simp at hn
      · rw [List.concat_eq_append] at hQ
        subst hQ
        rw [← List.append_assoc, insB_lt (h x (by simp)), ih Q (by simp at hn; omega) (fun y hy => h y (by simp [hy]))]
        simp
  exact key _ P2 rfl h2
theorem ws_split (t : Tm) : ∀ {l : List Tm}, WS l → ∃ l1 l2, l = l1 ++ l2 ∧ (∀ x ∈ l1, leT x t) ∧ (∀ x ∈ l2, ordT t x < 0)
  | [], _ => ⟨[], [], rfl, by simp, by simp⟩
  | x :: l, h => by
    obtain ⟨h1, h2⟩ := List.pairwise_cons.1 h
    by_cases hx : ordT t x < 0
    · refine ⟨[], x :: l, rfl, by simp, fun y hy => ?_⟩
      rcases List.mem_cons.1 hy with rfl | hy
      · exact hx
      · exact lt_le_trans hx (h1 y hy)
    · obtain ⟨l1, l2, rfl, g1, g2⟩ := ws_split t h2
      refine ⟨x :: l1, l2, rfl, fun y hy => ?_, g2⟩
      rcases List.mem_cons.1 hy with rfl | hy
      · exact hx
      · exact g1 y hy
theorem ws_insB {l : List Tm} (t : Tm) (h : WS l) : WS (insB l t) := by
  obtain ⟨l1, l2, rfl, g1, g2⟩ := ws_split t h
  rw [insB_split g1 g2]
  obtain ⟨k1, k2, k3⟩ := List.pairwise_append.1 h
  refine List.pairwise_append.2 ⟨k1, List.pairwise_cons.2 ⟨fun x hx => lt_le (g2 x hx), k2⟩, fun a ha b hb => ?_⟩
  rcases List.mem_cons.1 hb with rfl | hb
  · exact g1 a ha
  · exact k3 a ha b hb
theorem mem_insB {t x : Tm} {l : List Tm} : x ∈ insB l t ↔ x ∈ l ∨ x = t := by
  have : ∀ m : List Tm, x ∈ insRev t m ↔ x ∈ m ∨ x = t := by
    intro m
    induction m with
    | nil => simp [insRev]
    | cons y m ih =>
      unfold insRev
      split
      · rw [List.mem_cons, ih, List.mem_cons]
        constructor
        · rintro (h | h | h)
          · exact .inl (.inl h)
          · exact .inl (.inr h)
          · exact .inr h
        · rintro ((h | h) | h)
          · exact .inl h
          · exact .inr (.inl h)
          · exact .inr (.inr h)
      · rw [List.mem_cons]
        constructor
        · rintro (h | h)
          · exact .inr h
          · exact .inl h
        · rintro (h | h)
          · exact .inr h
          · exact .inl h
  unfold insB
  rw [List.mem_reverse, this, List.mem_reverse]
theorem insB_merge {L R : List Tm} (t : Tm) (hL : WS L) (hR : WS R) : insB (mergeF L R) t = mergeF L (insB R t) := by
  obtain ⟨L1, L2, rfl, a1, a2⟩ := ws_split t hL
  obtain ⟨R1, R2, rfl, b1, b2⟩ := ws_split t hR
  have s1 : ∀ l ∈ L1, ∀ r ∈ R2, leT l r := fun l hl r hr => leT_trans (a1 l hl) (lt_le (b2 r hr))
  have s2 : ∀ r ∈ R1, ∀ l ∈ L2, ordT r l < 0 := fun r hr l hl => le_lt_trans (b1 r hr) (a2 l hl)
  rw [mergeF_split _ _ _ _ s1 s2, insB_split b1 b2]
  have e : R1 ++ t :: R2 = (R1 ++ [t]) ++ R2 := by simp
  rw [e, mergeF_split _ _ _ _ s1 (fun r hr l hl => by
    rcases List.mem_append.1 hr with hr | hr
    · exact s2 r hr l hl
    · rw [List.mem_singleton.1 hr]; exact a2 l hl)]
  have e2 : mergeF L1 (R1 ++ [t]) = mergeF L1 R1 ++ [t] := by
    have := mergeF_split L1 R1 [] [t] (fun l hl r hr => by rw [List.mem_singleton.1 hr]; exact a1 l hl) (by simp)
    rw [List.append_nil] at this
    rw [this]
    rfl
  rw [e2, insB_split]
  · simp
  · intro x hx
    rcases mem_mergeF.1 hx with hx | hx
    · exact a1 x hx
    · exact b1 x hx
  · intro x hx
    rcases mem_mergeF.1 hx with hx | hx
    · exact a2 x hx
    · exact b2 x hx

/-! ### insertion sort -/
theorem isortF_append : ∀ (l m P : List Tm), isortF P (l ++ m) = isortF (isortF P l) m
  | [], m, P => rfl
  | t :: l, m, P => by rw [List.cons_append, isortF, isortF, isortF_append l]
theorem isortF_snoc (l P : List Tm) (t : Tm) : isortF P (l ++ [t]) = insB (isortF P l) t := by rw [isortF_append]; rfl
theorem ws_isortF : ∀ {l P : List Tm}, WS P → WS (isortF P l)
  | [], P, h => h
  | t :: l, P, h => by rw [isortF]; exact ws_isortF (ws_insB t h)
theorem ws_isort (l : List Tm) : WS (isortF [] l) := ws_isortF List.Pairwise.nil
theorem mem_isortF {x : Tm} : ∀ {l P : List Tm}, x ∈ isortF P l ↔ x ∈ P ∨ x ∈ l
  | [], P => by simp [isortF]
  | t :: l, P => by
    rw [isortF, mem_isortF, mem_insB, List.mem_cons]
    constructor
    · rintro ((h | h) | h)
      · exact .inl h
      · exact .inr (.inl h)
      · exact .inr (.inr h)
    · rintro (h | h | h)
      · exact .inl (.inl h)
      · exact .inl (.inr h)
      · exact .inr h
theorem isortF_merge {S : List Tm} (hS : WS S) (B : List Tm) : isortF S B = mergeF S (isortF [] B) := by
  have key : ∀ (n : Nat) (B : List Tm), B.length = n → isortF S B = mergeF S (isortF [] B) := by
    intro n
    induction n with
    | zero =>
      intro B hn
      have : B = [] := List.length_eq_zero_iff.1 hn
      subst this
      rw [isortF, isortF, mergeF_nil]
    | succ n ih =>
      intro B hn
      rcases List.eq_nil_or_concat B with rfl | ⟨Q, x, hQ⟩
      · simp at hn
      · rw [List.concat_eq_append] at hQ
        subst hQ
        rw [isortF_snoc, isortF_snoc, ih Q (by simp at hn; omega), insB_merge x hS (ws_isort Q)]
  exact key _ B rfl
theorem merge_isort (A B : List Tm) : mergeF (isortF [] A) (isortF [] B) = isortF [] (A ++ B) := by
  rw [isortF_append, isortF_merge (ws_isort A)]
theorem isort_length (l : List Tm) : (isortF [] l).length = l.length := by rw [isortF_length]; simp

/-! ### blocks in order -/
inductive Blk (bs : Nat) : List Tm → List Tm → Prop
  | last {l : List Tm} : l.length < bs → Blk bs l (isortF [] l)
  | step {l1 l2 d2 : List Tm} : l1.length = bs → Blk bs l2 d2 → Blk bs (l1 ++ l2) (isortF [] l1 ++ d2)
theorem Blk.len {bs : Nat} {l d : List Tm} (h : Blk bs l d) : d.length = l.length := by
  induction h with
  | last h => exact isort_length _
  | step h _ ih => rw [List.length_append, List.length_append, isort_length, ih]
theorem Blk.short {bs : Nat} {l d : List Tm} (h : Blk bs l d) (hl : l.length < bs) : d = isortF [] l := by
  cases h with
  | last _ => rfl
  | step h1 h2 => rw [List.length_append] at hl; omega
theorem Blk.cut {bs : Nat} {l d : List Tm} (h : Blk bs l d) (hl : bs ≤ l.length) : ∃ l1 l2 d2, l = l1 ++ l2 ∧ d = isortF [] l1 ++ d2 ∧ l1.length = bs ∧ Blk bs l2 d2 := by
  cases h with
  | last h => omega
  | step h1 h2 => exact ⟨_, _, _, rfl, rfl, h1, h2⟩
theorem Blk.done {bs : Nat} {l d : List Tm} (h : Blk bs l d) (h0 : 0 < bs) (hl : l.length ≤ bs) : d = isortF [] l := by
  by_cases he : l.length < bs
  · exact h.short he
  · obtain ⟨l1, l2, d2, rfl, rfl, h1, h2⟩ := h.cut (by omega)
    have : l2 = [] := by rw [List.length_append] at hl he; exact List.length_eq_zero_iff.1 (by omega)
    subst this
    rw [h2.short (by simpa using h0)]
    simp [isortF]
end Go.Proofs.YtooaafekllkpbaaDoor

/- Sorting of terms, part 1 of the walk of merging in place: ranges swapped and turned; no condition beyond stated lengths. -/
namespace Go.Proofs.YtooaafekllkpbaaDoor
open Go.Ab
set_option linter.unusedSimpArgs false
set_option linter.unusedVariables false

theorem subN {i j : Nat} (h : j ≤ i) (hi : i < 9000000000000000000) : IntKind.i64.wrap ((i : Int) - (j : Int)) = ((i - j : Nat) : Int) := by rw [IntKind.wrap_i64]; omega
theorem sub1N {i : Nat} (h : 1 ≤ i) (hi : i < 9000000000000000000) : IntKind.i64.wrap ((i : Int) - 1) = ((i - 1 : Nat) : Int) := by rw [IntKind.wrap_i64]; omega

theorem get_mid {A B : List Tm} {x : Tm} {i : Nat} (h : i = A.length) (hlt : i < (A ++ x :: B).length) : (A ++ x :: B)[i]'hlt = x := by
  subst h
  rw [List.getElem_append_right (by omega)]
  simp
/-- two terms in each other's place -/
theorem VecT.swap2 {lim : Nat} {H : AHeap} {blk : Nat} {v : Value} {A B C : List Tm} {x y : Tm} (h : VecT H blk v (A ++ x :: (B ++ y :: C))) (hl : lim ≤ blk) :
    (iadV 4 v (.int .i64 (A.length : Nat)) = some (.pointer (some ⟨blk, A.length * 4, none⟩)) ∧ At H blk (A.length * 4) x) ∧
    (iadV 4 v (.int .i64 (A.length + 1 + B.length : Nat)) = some (.pointer (some ⟨blk, (A.length + 1 + B.length) * 4, none⟩)) ∧ At H blk ((A.length + 1 + B.length) * 4) y) ∧
    ∃ H1 H2, storeH lim H 4 (.pointer (some ⟨blk, A.length * 4, none⟩)) (tv y) = some (undef, H1) ∧ storeH lim H1 4 (.pointer (some ⟨blk, (A.length + 1 + B.length) * 4, none⟩)) (tv x) = some (undef, H2) ∧
      VecT H2 blk v (A ++ y :: (B ++ x :: C)) ∧ Chg blk H H2 ∧ H2.next = H.next := by
  have e : A ++ x :: (B ++ y :: C) = (A ++ x :: B) ++ y :: C := by simp
  have hlen : (A ++ x :: B).length = A.length + 1 + B.length := by simp; omega
  obtain ⟨j1, a1⟩ := VecT.at h (i := A.length) (by simp)
  rw [get_mid rfl] at a1
  obtain ⟨j2, a2⟩ := VecT.at (show VecT H blk v ((A ++ x :: B) ++ y :: C) by rw [← e]; exact h) (i := A.length + 1 + B.length) (by simp; omega)
  rw [get_mid hlen.symm] at a2
  obtain ⟨cs1, h1, g1⟩ := VecT.putT (lim := lim) h hl (i := A.length) (by simp) y
  have e1 : (A ++ x :: (B ++ y :: C)).set A.length y = (A ++ y :: B) ++ y :: C := by
    rw [List.set_append_right _ _ (by omega), Nat.sub_self]
    simp
  rw [e1] at g1
  obtain ⟨cs2, h2, g2⟩ := VecT.putT (lim := lim) g1 hl (i := A.length + 1 + B.length) (by simp; omega) x
  have hlen2 : (A ++ y :: B).length = A.length + 1 + B.length := by simp; omega
  have e2 : ((A ++ y :: B) ++ y :: C).set (A.length + 1 + B.length) x = A ++ y :: (B ++ x :: C) := by
    rw [List.set_append_right _ _ (by omega), ← hlen2, Nat.sub_self]
    simp
  rw [e2] at g2
  exact ⟨⟨j1, a1⟩, ⟨j2, a2⟩, _, _, h1, h2, g2, (Chg.put blk H cs1).trans (Chg.put blk _ cs2), rfl⟩

theorem swapRange_ok (lim : Nat) (s : Value) (blk : Nat) (A X M Y B : List Tm) (H : AHeap) (hs : VecT H blk s (A ++ X ++ M ++ Y ++ B)) (hl : lim ≤ blk) (hXY : Y.length = X.length) (hn : A.length + X.length + M.length + Y.length ≤ 100000) {a b n : Int}
    (ha : a = (A.length : Int)) (hb : b = ((A.length + X.length + M.length : Nat) : Int)) (hnn : n = (X.length : Int)) :
    ACalls Tryd.prog lim n_slices_swapRangeCmpFunc_impl_Term [s, .int .i64 a, .int .i64 b, .int .i64 n, cmpF] H fun v H' => VecT H' blk s (A ++ Y ++ M ++ X ++ B) ∧ Chg blk H H' := by
  subst ha hb hnn
  refine is_slices_swapRangeCmpFunc_impl_Term.go rfl ?_
  unfold c_slices_swapRangeCmpFunc_impl_Term
  refine s_reg ?_
  simp only [o_pure, o_nil, POp.ev, Opd.ev, env0, gu, setD, List.set, Option.some.injEq, exists_eq_left']
  refine s_block1 ?_
  refine s_loop1 (fun k e' H' => ∃ (X1 X2 Y1 Y2 : List Tm), X = X1 ++ X2 ∧ Y = Y1 ++ Y2 ∧ Y1.length = X1.length ∧ X2.length = k ∧ VecT H' blk s (A ++ Y1 ++ X2 ++ M ++ X1 ++ Y2 ++ B) ∧ Chg blk H H' ∧
    e' = [s, .int .i64 A.length, .int .i64 ((A.length + X.length + M.length : Nat) : Int), .int .i64 X.length, .int .i64 X1.length]) X.length ⟨[], X, [], Y, rfl, rfl, rfl, rfl, by simpa using hs, Chg.refl _ _, rfl⟩ ?_
  rintro k e' H' ⟨X1, X2, Y1, Y2, rfl, rfl, hl1, hk, hv, hc, rfl⟩
  have hl2 : Y2.length = X2.length := by simp at hXY; omega
  simp only [List.length_append] at hn
  refine s_test ?_
  simp only [o_pure, o_nil, POp.ev, Opd.ev, gv, setD, Option.some.injEq, exists_eq_left', binV, ne_eq, not_true_eq_false, if_false]
  refine Test.split (fun hlt => ?_) (fun hlt => ?_)
  · have hlt' : X1.length < (X1 ++ X2).length := by simp at hlt ⊢; omega
    obtain ⟨x, X3, rfl⟩ : ∃ x X3, X2 = x :: X3 := by
      cases X2 with
      | nil => simp at hlt'
      | cons x X3 => exact ⟨x, X3, rfl⟩
    obtain ⟨y, Y3, rfl⟩ : ∃ y Y3, Y2 = y :: Y3 := by
      cases Y2 with
      | nil => simp at hl2
      | cons y Y3 => exact ⟨y, Y3, rfl⟩
    simp only [List.length_cons] at hk hl2 hn
    have e1 : A ++ Y1 ++ x :: X3 ++ M ++ X1 ++ y :: Y3 ++ B = (A ++ Y1) ++ x :: ((X3 ++ M ++ X1) ++ y :: (Y3 ++ B)) := by simp
    rw [e1] at hv
    obtain ⟨⟨j1, a1⟩, ⟨j2, a2⟩, H1, H2, t1, t2, hv2, hc2, hn2⟩ := VecT.swap2 (lim := lim) hv hl
    have i1 : (A ++ Y1).length = A.length + X1.length := by simp; omega
    have i2 : A.length + X1.length + 1 + (X3 ++ M ++ X1).length = A.length + (X1 ++ x :: X3).length + M.length + X1.length := by simp; omega
    rw [i1] at j1 a1 t1 j2 a2 t2
    rw [i2] at j2 a2 t2
    have w1 := addN (i := A.length) (j := X1.length) (by omega)
    have w2 := addN (i := A.length + (X1 ++ x :: X3).length + M.length) (j := X1.length) (by simp; omega)
    refine s_skip1 ?_
    simp +decide only [p_seq_normal]
    refine s_block ?_
    refine s_reg1 ?_
    simp only [o_pure, o_eff, o_nil, POp.ev, Opd.ev, EOp.ev, gv, setD, Option.some.injEq, exists_eq_left', binV, ne_eq, not_true_eq_false, if_false, w1, w2, j1, a1.all, j2, a2.all, t1, t2]
    simp +decide only [p_seq_normal, p_block_normal]
    refine s_reg1 ?_
    simp only [o_pure, o_nil, POp.ev, Opd.ev, gv, setD, List.set, Option.some.injEq, exists_eq_left', binV, ne_eq, not_true_eq_false, if_false, add1 (i := X1.length) (by omega)]
    simp +decide only [p_seq_normal]
    refine Round.mk (k - 1) (by omega) ⟨X1 ++ [x], X3, Y1 ++ [y], Y3, by simp, by simp, by simp; omega, by omega, ?_, hc.trans hc2, by simp⟩
    have e2 : A ++ (Y1 ++ [y]) ++ X3 ++ M ++ (X1 ++ [x]) ++ Y3 ++ B = (A ++ Y1) ++ y :: ((X3 ++ M ++ X1) ++ x :: (Y3 ++ B)) := by simp
    rw [e2]
    exact hv2
  · have hge : X2.length = 0 := by simp at hlt; omega
    have h2 : X2 = [] := List.length_eq_zero_iff.1 hge
    subst h2
    have h3 : Y2 = [] := List.length_eq_zero_iff.1 (by simpa using hl2)
    subst h3
    refine s_exit1 ?_
    simp +decide only [p_seq_exit, p_block_exit, p_fin_normal, reduceIte, resV, resL, Option.some.injEq, exists_eq_left', Option.map_some]
    exact ⟨by simpa using hv, hc⟩

theorem rotate_ok (lim : Nat) (s : Value) (blk : Nat) (A U V B : List Tm) (H : AHeap) (hs : VecT H blk s (A ++ U ++ V ++ B)) (hl : lim ≤ blk) (hn : A.length + U.length + V.length ≤ 100000) (hU : U ≠ []) (hV : V ≠ []) {a m b : Int}
    (ha : a = (A.length : Int)) (hm : m = ((A.length + U.length : Nat) : Int)) (hb : b = ((A.length + U.length + V.length : Nat) : Int)) :
    ACalls Tryd.prog lim n_slices_rotateCmpFunc_impl_Term [s, .int .i64 a, .int .i64 m, .int .i64 b, cmpF] H fun v H' => VecT H' blk s (A ++ V ++ U ++ B) ∧ Chg blk H H' := by
  subst ha hm hb
  refine is_slices_rotateCmpFunc_impl_Term.go rfl ?_
  unfold c_slices_rotateCmpFunc_impl_Term
  have w0 : IntKind.i64.wrap (((A.length + U.length : Nat) : Int) - (A.length : Int)) = (U.length : Int) := by rw [subN (by omega) (by omega)]; omega
  have w1 : IntKind.i64.wrap (((A.length + U.length + V.length : Nat) : Int) - ((A.length + U.length : Nat) : Int)) = (V.length : Int) := by rw [subN (by omega) (by omega)]; omega
  refine s_reg ?_
  simp only [o_pure, o_nil, POp.ev, Opd.ev, env0, gu, gv, setD, List.set, Option.some.injEq, exists_eq_left', binV, ne_eq, not_true_eq_false, if_false, w0]
  refine s_reg ?_
  simp only [o_pure, o_nil, POp.ev, Opd.ev, gv, setD, List.set, Option.some.injEq, exists_eq_left', binV, ne_eq, not_true_eq_false, if_false, w1]
  refine s_block ?_
  refine s_loop1 (fun k e' H' => ∃ (A' U' V' B' : List Tm), A' ++ V' ++ U' ++ B' = A ++ V ++ U ++ B ∧ A'.length + U'.length = A.length + U.length ∧ A'.length + U'.length + V'.length ≤ 100000 ∧ U' ≠ [] ∧ V' ≠ [] ∧ U'.length + V'.length = k ∧ VecT H' blk s (A' ++ U' ++ V' ++ B') ∧ Chg blk H H' ∧
    e' = [s, .int .i64 A.length, .int .i64 ((A.length + U.length : Nat) : Int), .int .i64 ((A.length + U.length + V.length : Nat) : Int), cmpF, .int .i64 U'.length, .int .i64 V'.length]) (U.length + V.length) ⟨A, U, V, B, rfl, rfl, by omega, hU, hV, rfl, hs, Chg.refl _ _, rfl⟩ ?_
  rintro k e' H' ⟨A', U', V', B', heq, hpos, hn', hU', hV', hk, hv, hc, rfl⟩
  have hu0 : 0 < U'.length := List.length_pos_iff.2 hU'
  have hv0 : 0 < V'.length := List.length_pos_iff.2 hV'
  have wA : IntKind.i64.wrap (((A.length + U.length : Nat) : Int) - (U'.length : Int)) = (A'.length : Int) := by rw [subN (by omega) (by omega)]; omega
  refine s_test ?_
  simp only [o_pure, o_nil, POp.ev, Opd.ev, gv, setD, Option.some.injEq, exists_eq_left', binV, ne_eq, not_true_eq_false, if_false]
  refine Test.split (fun hne => ?_) (fun hne => ?_)
  · have hne' : U'.length ≠ V'.length := by simp at hne; omega
    refine s_skip1 ?_
    simp +decide only [p_seq_normal]
    refine s_block1 ?_
    refine s_test1 ?_
    simp only [o_pure, o_nil, POp.ev, Opd.ev, gv, setD, Option.some.injEq, exists_eq_left', binV, ne_eq, not_true_eq_false, if_false]
    refine Test.split (fun hgt => ?_) (fun hgt => ?_)
    · have hgt' : V'.length < U'.length := by simp at hgt; omega
      obtain ⟨U1, U2, rfl, hU1⟩ : ∃ U1 U2, U' = U1 ++ U2 ∧ U1.length = V'.length := ⟨U'.take V'.length, U'.drop V'.length, (List.take_append_drop _ _).symm, by simp; omega⟩
      refine s_reg ?_
      simp only [o_pure, o_callF, POp.ev, Opd.ev, gv, setD, List.map, Option.some.injEq, exists_eq_left', binV, ne_eq, not_true_eq_false, if_false, wA]
      simp only [List.length_append] at hn' hpos hk hgt'
      have hcall := swapRange_ok lim s blk A' U1 U2 V' B' H' (by simpa using hv) hl (by omega) (by omega) (a := A'.length) (b := ((A.length + U.length : Nat) : Int)) (n := (V'.length : Int)) rfl (by omega) (by omega)
      refine hcall.mono ?_
      rintro _ H2 ⟨hv2, hc2⟩
      simp only [o_cont, o_nil, setD]
      refine s_reg1 ?_
      have w2 : IntKind.i64.wrap (((U1 ++ U2).length : Int) - (V'.length : Int)) = (U2.length : Int) := by rw [subN (by simp; omega) (by simp; omega)]; simp; omega
      simp only [o_pure, o_nil, POp.ev, Opd.ev, gv, setD, List.set, Option.some.injEq, exists_eq_left', binV, ne_eq, not_true_eq_false, if_false, w2]
      simp +decide only [p_seq_normal, p_block_normal]
      refine Round.mk (U2.length + U1.length) (by omega) ⟨A' ++ V', U2, U1, B', ?_, by simp; omega, by simp; omega, ?_, ?_, rfl, by simpa using hv2, hc.trans hc2, by rw [hU1]⟩
      · rw [← heq]; simp
      · intro h; rw [h] at hgt'; simp at hgt'; omega
      · intro h; rw [h] at hU1; simp at hU1; omega
    · have hgt' : U'.length < V'.length := by simp at hgt; omega
      obtain ⟨V1, V2, rfl, hV1⟩ : ∃ V1 V2, V' = V1 ++ V2 ∧ V2.length = U'.length := ⟨V'.take (V'.length - U'.length), V'.drop (V'.length - U'.length), (List.take_append_drop _ _).symm, by simp; omega⟩
      simp only [List.length_append] at hn' hpos hk hgt'
      have w2 : IntKind.i64.wrap (((A.length + U.length : Nat) : Int) + ((V1 ++ V2).length : Int)) = ((A.length + U.length + (V1 ++ V2).length : Nat) : Int) := addN (by simp; omega)
      have w3 : IntKind.i64.wrap (((A.length + U.length + (V1 ++ V2).length : Nat) : Int) - (U'.length : Int)) = ((A'.length + U'.length + V1.length : Nat) : Int) := by rw [subN (by omega) (by simp; omega)]; simp; omega
      refine s_reg ?_
      simp only [o_pure, o_callF, POp.ev, Opd.ev, gv, setD, List.map, Option.some.injEq, exists_eq_left', binV, ne_eq, not_true_eq_false, if_false, wA, w2, w3]
      have hcall := swapRange_ok lim s blk A' U' V1 V2 B' H' (by simpa using hv) hl (by omega) (by omega) (a := A'.length) (b := ((A'.length + U'.length + V1.length : Nat) : Int)) (n := (U'.length : Int)) rfl rfl rfl
      refine hcall.mono ?_
      rintro _ H2 ⟨hv2, hc2⟩
      simp only [o_cont, o_nil, setD]
      refine s_reg1 ?_
      have w4 : IntKind.i64.wrap (((V1 ++ V2).length : Int) - (U'.length : Int)) = (V1.length : Int) := by rw [subN (by simp; omega) (by simp; omega)]; simp; omega
      simp only [o_pure, o_nil, POp.ev, Opd.ev, gv, setD, List.set, Option.some.injEq, exists_eq_left', binV, ne_eq, not_true_eq_false, if_false, w4]
      simp +decide only [p_seq_normal, p_block_normal]
      refine Round.mk (V2.length + V1.length) (by omega) ⟨A', V2, V1, U' ++ B', ?_, by omega, by omega, ?_, ?_, rfl, by simpa using hv2, hc.trans hc2, by rw [hV1]⟩
      · rw [← heq]; simp
      · intro h; rw [h] at hV1; simp at hV1; omega
      · intro h; rw [h] at hgt'; simp at hgt'; omega
  · have heq' : U'.length = V'.length := by simp at hne; omega
    refine s_exit1 ?_
    simp +decide only [p_seq_normal, p_seq_exit, p_block_exit, reduceIte]
    refine s_reg1 ?_
    simp only [o_pure, o_callF, POp.ev, Opd.ev, gv, setD, List.map, Option.some.injEq, exists_eq_left', binV, ne_eq, not_true_eq_false, if_false, wA]
    have hcall := swapRange_ok lim s blk A' U' [] V' B' H' (by simpa using hv) hl (by omega) (by simp; omega) (a := A'.length) (b := ((A.length + U.length : Nat) : Int)) (n := (U'.length : Int)) rfl (by simp; omega) rfl
    refine hcall.mono ?_
    rintro _ H2 ⟨hv2, hc2⟩
    simp only [o_cont, o_nil, setD]
    simp +decide only [p_fin_normal, resV, resL, Option.some.injEq, exists_eq_left', Option.map_some]
    rw [← heq]
    exact ⟨by simpa using hv2, hc.trans hc2⟩
end Go.Proofs.YtooaafekllkpbaaDoor
