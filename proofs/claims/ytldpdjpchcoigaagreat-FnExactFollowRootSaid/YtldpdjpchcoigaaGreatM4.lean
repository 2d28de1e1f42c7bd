/- Parts of the proof of a statement of this seat: contracts of functions that the law calls, or the law's own row; no condition. -/
import Derived.Test.YtldpdjpchcoigaaGreatM3
/- Wide numbers, the program: compared; no condition beyond stated ranges. -/
namespace Go.Proofs.YtldpdjpchcoigaaGreat
open Go.Ab Ints
set_option linter.unusedSimpArgs false
set_option linter.unusedVariables false
def cmp3 (a b : Int) : Int := if a < b then -1 else if a > b then 1 else 0
/-- the first that is not 0 -/
def orL : List Int → Int
  | [] => 0
  | x :: l => if x ≠ 0 then x else orL l
theorem or_ok (lim : Nat) (s : Value) (l : List Int) (H : AHeap) (hs : Sl H s l.length 1 (l.map vi)) (hn : l.length ≤ 1000) : ACalls Tryz.prog lim n_cmp_Or_int [s] H fun v H' => v = .int .i64 (orL l) ∧ H' = H := by
  refine is_cmp_Or_int.go rfl ?_
  unfold c_cmp_Or_int
  refine s_reg ?_
  simp only [o_pure, o_nil, POp.ev, Opd.ev, env0, gu, setD, List.set, Option.some.injEq, exists_eq_left']
  refine s_reg ?_
  simp only [o_pure, o_nil, POp.ev, Opd.ev, setD, List.set, Option.some.injEq, exists_eq_left']
  refine s_assoc (s_reg ?_)
  simp only [o_pure, o_nil, POp.ev, Opd.ev, gv, setD, List.set, Option.some.injEq, exists_eq_left', hs.lenV]
  refine s_block ?_
  refine s_loop1 (fun k e' H' => H' = H ∧ ∃ (i : Nat) (y : Value), i + k = l.length ∧ orL l = orL (l.drop i) ∧ e' = [s, .int .i64 0, .int .i64 0, y, s, .int .i64 l.length, .int .i64 i]) l.length ⟨rfl, 0, _, by omega, rfl, rfl⟩ ?_
  rintro k e' H ⟨rfl, i, y, hik, hall, rfl⟩
  refine s_test ?_
  simp only [o_pure, o_nil, POp.ev, Opd.ev, gv, setD, Option.some.injEq, exists_eq_left', binV, ne_eq, not_true_eq_false, if_false]
  refine Test.split (fun hlt => ?_) (fun hlt => ?_)
  · have hlt' : i < l.length := by simpa using hlt
    obtain ⟨b, o, h1, h2, h3⟩ := hs.cell .i64 (i := (i : Int)) (by omega) (by omega)
    rw [show (i : Int).toNat = i by omega, List.getElem?_map, List.getElem?_eq_getElem hlt'] at h3
    simp only [Option.map_some] at h3
    rw [List.drop_eq_getElem_cons hlt', orL] at hall
    refine s_skip1 ?_
    simp +decide only [p_seq_normal]
    refine s_block ?_
    refine s_reg ?_
    simp only [o_pure, o_nil, POp.ev, Opd.ev, gv, setD, List.set, Option.some.injEq, exists_eq_left', load1V, h1, h3]
    refine s_test1 ?_
    simp only [o_pure, o_nil, POp.ev, Opd.ev, gv, setD, Option.some.injEq, exists_eq_left', binV, ne_eq, not_true_eq_false, if_false]
    refine Test.split (fun h => ?_) (fun h => ?_)
    · refine s_reg ?_
      simp only [o_pure, o_nil, POp.ev, Opd.ev, gv, setD, List.set, Option.some.injEq, exists_eq_left']
      refine s_ret1 ?_
      simp +decide only [p_seq_ret, p_block_ret, p_fin_ret, resV, resOne, gv, Option.some.injEq, exists_eq_left']
      rw [if_pos (by simpa using h)] at hall
      rw [hall]
      trivial
    · refine s_skip1 ?_
      simp +decide only [p_seq_normal, p_block_normal]
      refine s_reg1 ?_
      simp only [o_pure, o_nil, POp.ev, Opd.ev, gv, setD, List.set, Option.some.injEq, exists_eq_left', binV, ne_eq, not_true_eq_false, if_false, add1 (i := i) (by omega)]
      simp +decide only [p_seq_normal]
      rw [if_neg (by simpa using h)] at hall
      exact Round.mk (k - 1) (by omega) ⟨rfl, i + 1, _, by omega, hall, rfl⟩
  · have hge : i = l.length := by simp at hlt; omega
    subst hge
    refine s_exit1 ?_
    simp +decide only [p_seq_normal, p_seq_exit, p_block_exit, reduceIte]
    refine s_reg ?_
    simp only [o_pure, o_nil, POp.ev, Opd.ev, gv, setD, List.set, Option.some.injEq, exists_eq_left']
    refine s_ret1 ?_
    simp +decide only [p_fin_ret, resV, resOne, gv, Option.some.injEq, exists_eq_left']
    rw [List.drop_length, orL] at hall
    rw [hall]
    trivial
theorem isNaNW_ok (lim : Nat) (a : Int) (H : AHeap) : ACalls Tryz.prog lim n_cmp_isNaN_uint64 [.int .u64 a] H fun v H' => v = .bool false ∧ H' = H := by
  refine is_cmp_isNaN_uint64.go rfl ?_
  unfold c_cmp_isNaN_uint64
  have h : (a != a) = false := by simp
  refine s_reg ?_
  simp only [o_pure, o_nil, POp.ev, Opd.ev, env0, gu, setD, List.set, Option.some.injEq, exists_eq_left']
  refine s_reg ?_
  simp only [o_pure, o_nil, POp.ev, Opd.ev, gv, setD, List.set, Option.some.injEq, exists_eq_left', binV, ne_eq, not_true_eq_false, if_false, h]
  refine s_ret1 ?_
  simp +decide only [p_fin_ret, resV, resOne, gv, Option.some.injEq, exists_eq_left']
theorem compareW_ok (lim : Nat) (a b : Int) (H : AHeap) : ACalls Tryz.prog lim n_cmp_Compare_uint64 [.int .u64 a, .int .u64 b] H fun v H' => v = .int .i64 (cmp3 a b) ∧ H' = H := by
  refine is_cmp_Compare_uint64.go rfl ?_
  unfold c_cmp_Compare_uint64 cmp3
  refine s_reg ?_
  simp only [o_pure, o_nil, POp.ev, Opd.ev, env0, gu, setD, List.set, Option.some.injEq, exists_eq_left']
  refine s_reg ?_
  simp only [o_pure, o_callF, POp.ev, Opd.ev, gv, setD, List.map, Option.some.injEq, exists_eq_left']
  refine (isNaNW_ok _ _ _).eq ?_
  simp only [o_cont, o_pure, o_nil, POp.ev, Opd.ev, gv, setD, List.set, Option.some.injEq, exists_eq_left']
  refine s_reg ?_
  simp only [o_pure, o_callF, POp.ev, Opd.ev, gv, setD, List.map, Option.some.injEq, exists_eq_left']
  refine (isNaNW_ok _ _ _).eq ?_
  simp only [o_cont, o_pure, o_nil, POp.ev, Opd.ev, gv, setD, List.set, Option.some.injEq, exists_eq_left']
  refine s_test ?_
  simp only [o_pure, o_nil, POp.ev, Opd.ev, gv, setD, Option.some.injEq, exists_eq_left']
  refine Test.false_ (s_skip1 ?_)
  simp +decide only [p_seq_normal]
  refine s_test ?_
  simp only [o_pure, o_nil, POp.ev, Opd.ev, gv, setD, Option.some.injEq, exists_eq_left']
  refine Test.false_ (s_skip1 ?_)
  simp +decide only [p_seq_normal]
  refine s_test ?_
  simp only [o_pure, o_nil, POp.ev, Opd.ev, gv, setD, Option.some.injEq, exists_eq_left', binV, ne_eq, not_true_eq_false, if_false]
  refine Test.split (fun h => ?_) (fun h => ?_)
  · refine s_reg ?_
    simp only [o_pure, o_nil, POp.ev, Opd.ev, setD, List.set, Option.some.injEq, exists_eq_left']
    refine s_ret1 ?_
    simp +decide only [p_seq_ret, p_fin_ret, resV, resOne, gv, Option.some.injEq, exists_eq_left']
    rw [if_pos (by simpa using h)]
    trivial
  · refine s_skip1 ?_
    simp +decide only [p_seq_normal]
    refine s_test ?_
    simp only [o_pure, o_nil, POp.ev, Opd.ev, gv, setD, Option.some.injEq, exists_eq_left', binV, ne_eq, not_true_eq_false, if_false]
    refine Test.split (fun h2 => ?_) (fun h2 => ?_)
    · refine s_reg ?_
      simp only [o_pure, o_nil, POp.ev, Opd.ev, setD, List.set, Option.some.injEq, exists_eq_left']
      refine s_ret1 ?_
      simp +decide only [p_seq_ret, p_fin_ret, resV, resOne, gv, Option.some.injEq, exists_eq_left']
      rw [if_neg (by simpa using h), if_pos (by simpa using h2)]
      trivial
    · refine s_skip1 ?_
      simp +decide only [p_seq_normal]
      refine s_reg ?_
      simp only [o_pure, o_nil, POp.ev, Opd.ev, setD, List.set, Option.some.injEq, exists_eq_left']
      refine s_ret1 ?_
      simp +decide only [p_fin_ret, resV, resOne, gv, Option.some.injEq, exists_eq_left']
      rw [if_neg (by simpa using h), if_neg (by simpa using h2)]
      trivial
theorem isNaNU_ok (lim : Nat) (a : Int) (H : AHeap) : ACalls Tryz.prog lim n_cmp_isNaN_uint32 [.int .u32 a] H fun v H' => v = .bool false ∧ H' = H := by
  refine is_cmp_isNaN_uint32.go rfl ?_
  unfold c_cmp_isNaN_uint32
  have h : (a != a) = false := by simp
  refine s_reg ?_
  simp only [o_pure, o_nil, POp.ev, Opd.ev, env0, gu, setD, List.set, Option.some.injEq, exists_eq_left']
  refine s_reg ?_
  simp only [o_pure, o_nil, POp.ev, Opd.ev, gv, setD, List.set, Option.some.injEq, exists_eq_left', binV, ne_eq, not_true_eq_false, if_false, h]
  refine s_ret1 ?_
  simp +decide only [p_fin_ret, resV, resOne, gv, Option.some.injEq, exists_eq_left']
theorem compareU_ok (lim : Nat) (a b : Int) (H : AHeap) : ACalls Tryz.prog lim n_cmp_Compare_uint32 [.int .u32 a, .int .u32 b] H fun v H' => v = .int .i64 (cmp3 a b) ∧ H' = H := by
  refine is_cmp_Compare_uint32.go rfl ?_
  unfold c_cmp_Compare_uint32 cmp3
  refine s_reg ?_
  simp only [o_pure, o_nil, POp.ev, Opd.ev, env0, gu, setD, List.set, Option.some.injEq, exists_eq_left']
  refine s_reg ?_
  simp only [o_pure, o_callF, POp.ev, Opd.ev, gv, setD, List.map, Option.some.injEq, exists_eq_left']
  refine (isNaNU_ok _ _ _).eq ?_
  simp only [o_cont, o_pure, o_nil, POp.ev, Opd.ev, gv, setD, List.set, Option.some.injEq, exists_eq_left']
  refine s_reg ?_
  simp only [o_pure, o_callF, POp.ev, Opd.ev, gv, setD, List.map, Option.some.injEq, exists_eq_left']
  refine (isNaNU_ok _ _ _).eq ?_
  simp only [o_cont, o_pure, o_nil, POp.ev, Opd.ev, gv, setD, List.set, Option.some.injEq, exists_eq_left']
  refine s_test ?_
  simp only [o_pure, o_nil, POp.ev, Opd.ev, gv, setD, Option.some.injEq, exists_eq_left']
  refine Test.false_ (s_skip1 ?_)
  simp +decide only [p_seq_normal]
  refine s_test ?_
  simp only [o_pure, o_nil, POp.ev, Opd.ev, gv, setD, Option.some.injEq, exists_eq_left']
  refine Test.false_ (s_skip1 ?_)
  simp +decide only [p_seq_normal]
  refine s_test ?_
  simp only [o_pure, o_nil, POp.ev, Opd.ev, gv, setD, Option.some.injEq, exists_eq_left', binV, ne_eq, not_true_eq_false, if_false]
  refine Test.split (fun h => ?_) (fun h => ?_)
  · refine s_reg ?_
    simp only [o_pure, o_nil, POp.ev, Opd.ev, setD, List.set, Option.some.injEq, exists_eq_left']
    refine s_ret1 ?_
    simp +decide only [p_seq_ret, p_fin_ret, resV, resOne, gv, Option.some.injEq, exists_eq_left']
    rw [if_pos (by simpa using h)]
    trivial
  · refine s_skip1 ?_
    simp +decide only [p_seq_normal]
    refine s_test ?_
    simp only [o_pure, o_nil, POp.ev, Opd.ev, gv, setD, Option.some.injEq, exists_eq_left', binV, ne_eq, not_true_eq_false, if_false]
    refine Test.split (fun h2 => ?_) (fun h2 => ?_)
    · refine s_reg ?_
      simp only [o_pure, o_nil, POp.ev, Opd.ev, setD, List.set, Option.some.injEq, exists_eq_left']
      refine s_ret1 ?_
      simp +decide only [p_seq_ret, p_fin_ret, resV, resOne, gv, Option.some.injEq, exists_eq_left']
      rw [if_neg (by simpa using h), if_pos (by simpa using h2)]
      trivial
    · refine s_skip1 ?_
      simp +decide only [p_seq_normal]
      refine s_reg ?_
      simp only [o_pure, o_nil, POp.ev, Opd.ev, setD, List.set, Option.some.injEq, exists_eq_left']
      refine s_ret1 ?_
      simp +decide only [p_fin_ret, resV, resOne, gv, Option.some.injEq, exists_eq_left']
      rw [if_neg (by simpa using h), if_neg (by simpa using h2)]
      trivial
theorem isZero_ok (lim : Nat) (b : Bool) (hi lo : Nat) (H : AHeap) : ACalls Tryz.prog lim n_impl_wide_isZero [wv b hi lo] H fun v H' => v = .bool (decide (hi = 0 ∧ lo = 0)) ∧ Ext H H' := by
  refine is_impl_wide_isZero.go rfl ?_
  unfold c_impl_wide_isZero wv
  refine s_reg ?_
  simp only [o_pure, o_eff, o_nil, POp.ev, Opd.ev, EOp.ev, env0, gu, gv, setD, List.set, Option.map_some, Option.some.injEq, exists_eq_left', boxH, cellsV]
  have hx := Ext.alloc H [.bool b, .int .u64 (hi : Int), .int .u64 (lo : Int)]
  have hb := alloc_new H [.bool b, .int .u64 (hi : Int), .int .u64 (lo : Int)]
  generalize H.alloc [.bool b, .int .u64 (hi : Int), .int .u64 (lo : Int)] = H1 at hx hb ⊢
  refine s_reg ?_
  by_cases h : hi = 0
  · have d : ((hi : Int) == 0) = true := by simp [h]
    simp only [o_pure, o_guard, gk_tt, o_nil, POp.ev, Opd.ev, gv, setD, List.set, Option.some.injEq, exists_eq_left', pickV, binV, load1V, fadV, ne_eq, not_true_eq_false, if_false, List.getElem?_cons_zero, List.getElem?_cons_succ, Nat.zero_add, cell_blk hb, d]
    refine s_ret1 ?_
    simp +decide only [p_fin_ret, resV, resOne, gv, Option.some.injEq, exists_eq_left']
    exact ⟨by simp [h, nat_eq0], hx⟩
  · have d : ((hi : Int) == 0) = false := by simp [h]
    simp only [o_pure, o_guard, gk_ft, o_nil, POp.ev, Opd.ev, gv, setD, List.set, Option.some.injEq, exists_eq_left', pickV, binV, load1V, fadV, ne_eq, not_true_eq_false, if_false, List.getElem?_cons_zero, List.getElem?_cons_succ, Nat.zero_add, cell_blk hb, d]
    refine s_ret1 ?_
    simp +decide only [p_fin_ret, resV, resOne, gv, Option.some.injEq, exists_eq_left']
    exact ⟨by simp [h], hx⟩
/-- what two wide numbers compare to, without their signs -/
theorem cmp_sgn (h1 l1 h2 l2 : Nat) (a : l1 < 18446744073709551616) (b : l2 < 18446744073709551616) : orL [cmp3 h1 h2, cmp3 l1 l2] = sgn3 (((h1 * 18446744073709551616 + l1 : Nat) : Int) - ((h2 * 18446744073709551616 + l2 : Nat) : Int)) := by
  have c1 : ∀ a b : Int, a < b → cmp3 a b = -1 := fun a b h => by unfold cmp3; rw [if_pos h]
  have c2 : ∀ a : Int, cmp3 a a = 0 := fun a => by unfold cmp3; rw [if_neg (by omega), if_neg (by omega)]
  have c3 : ∀ a b : Int, b < a → cmp3 a b = 1 := fun a b h => by unfold cmp3; rw [if_neg (by omega), if_pos h]
  have o1 : ∀ x y : Int, x ≠ 0 → orL [x, y] = x := fun x y h => by unfold orL; rw [if_pos h]
  have o2 : ∀ y : Int, orL [0, y] = y := fun y => by
    unfold orL; rw [if_neg (by simp)]; unfold orL
    split
    · rfl
    · rename_i h; unfold orL; omega
  rcases Nat.lt_trichotomy h1 h2 with h | h | h
  · rw [c1 h1 h2 (by omega), o1 _ _ (by decide), sg3n (by omega)]
  · subst h
    rw [c2, o2]
    rcases Nat.lt_trichotomy l1 l2 with g | g | g
    · rw [c1 l1 l2 (by omega), sg3n (by omega)]
    · subst g
      rw [c2, Int.sub_self]; rfl
    · rw [c3 l1 l2 (by omega), sg3p (by omega)]
  · rw [c3 h1 h2 (by omega), o1 _ _ (by decide), sg3p (by omega)]
def wval (hi lo : Nat) : Int := ((hi * 18446744073709551616 + lo : Nat) : Int)
theorem compareSizes_ok (lim : Nat) (b c : Bool) (h1 l1 h2 l2 : Nat) (H : AHeap) (hl : lim ≤ H.next) (g1 : l1 < 18446744073709551616) (g2 : l2 < 18446744073709551616) :
    ACalls Tryz.prog lim n_impl_compareSizes [wv b h1 l1, wv c h2 l2] H fun v H' => v = .int .i64 (sgn3 (wval h1 l1 - wval h2 l2)) ∧ Ext H H' := by
  refine is_impl_compareSizes.go rfl ?_
  unfold c_impl_compareSizes wv
  refine s_reg ?_
  simp only [o_pure, o_eff, o_nil, POp.ev, Opd.ev, EOp.ev, env0, gu, gv, setD, List.set, Option.map_some, Option.some.injEq, exists_eq_left', boxH, cellsV]
  have hx1 := Ext.alloc H [.bool b, .int .u64 (h1 : Int), .int .u64 (l1 : Int)]
  have hb1 := alloc_new H [.bool b, .int .u64 (h1 : Int), .int .u64 (l1 : Int)]
  have hl1 : (H.alloc [.bool b, .int .u64 (h1 : Int), .int .u64 (l1 : Int)]).next = H.next + 1 := rfl
  generalize H.alloc [.bool b, .int .u64 (h1 : Int), .int .u64 (l1 : Int)] = H1 at hx1 hb1 hl1 ⊢
  have hx2 := Ext.alloc H1 [.bool c, .int .u64 (h2 : Int), .int .u64 (l2 : Int)]
  have hb2 := alloc_new H1 [.bool c, .int .u64 (h2 : Int), .int .u64 (l2 : Int)]
  replace hb1 := (hx2.blk _ (by omega)).trans hb1
  generalize H1.alloc [.bool c, .int .u64 (h2 : Int), .int .u64 (l2 : Int)] = H2 at hx2 hb1 hb2 ⊢
  refine s_reg ?_
  simp only [o_pure, o_callN, POp.ev, Opd.ev, gv, setD, List.map, Option.some.injEq, exists_eq_left', load1V, fadV, List.getElem?_cons_zero, List.getElem?_cons_succ, Nat.zero_add, cell_blk hb1, cell_blk hb2]
  refine (compareW_ok _ _ _ H2).use ?_
  rintro _ HH ⟨rfl, hh⟩ _
  subst HH
  simp only [o_cont, o_callF, Opd.ev, gv, setD, List.map]
  refine (compareW_ok _ _ _ H2).mono ?_
  rintro _ HH ⟨rfl, hh⟩
  subst HH
  simp only [o_cont, o_eff, o_callF, Opd.ev, EOp.ev, gv, setD, List.map, Option.some.injEq, exists_eq_left', bslice2]
  have hw := Vec.lit (H := H2) (n := 2) (sz := 1) (cells := [Value.int .i64 (cmp3 h1 h2), .int .i64 (cmp3 l1 l2)]) rfl
  refine (or_ok _ _ [cmp3 h1 h2, cmp3 l1 l2] _ hw.sl (by simp)).mono ?_
  rintro _ HH ⟨rfl, hh⟩
  subst HH
  simp only [o_cont, o_pure, o_nil, POp.ev, Opd.ev, gv, setD, List.set, Option.some.injEq, exists_eq_left']
  refine s_ret1 ?_
  simp +decide only [p_fin_ret, resV, resOne, gv, Option.some.injEq, exists_eq_left']
  exact ⟨by rw [cmp_sgn h1 l1 h2 l2 g1 g2]; unfold wval; trivial, (hx1.trans hx2).trans (Ext.alloc _ _)⟩
/-- a wide number's value -/
def wsv (b : Bool) (hi lo : Nat) : Int := if b then -wval hi lo else wval hi lo
theorem wsv_f (h l : Nat) : wsv false h l = wval h l := by unfold wsv; rw [if_neg (by decide)]
theorem wsv_t (h l : Nat) : wsv true h l = -wval h l := by unfold wsv; rw [if_pos rfl]
theorem wval_z : wval 0 0 = 0 := by decide
theorem compareWide_ok (lim : Nat) (b c : Bool) (h1 l1 h2 l2 : Nat) (H : AHeap) (hl : lim ≤ H.next) (g1 : l1 < 18446744073709551616) (g2 : l2 < 18446744073709551616) :
    ACalls Tryz.prog lim n_impl_compareWide [wv b h1 l1, wv c h2 l2] H fun v H' => v = .int .i64 (sgn3 (wsv b h1 l1 - wsv c h2 l2)) ∧ Ext H H' := by
  refine is_impl_compareWide.go rfl ?_
  unfold c_impl_compareWide
  have hwv : ∀ b h l, wv b h l = .agg #[.bool b, .int .u64 ((h : Nat) : Int), .int .u64 ((l : Nat) : Int)] := fun _ _ _ => rfl
  rw [hwv b, hwv c]
  refine s_reg ?_
  simp only [o_pure, o_eff, o_nil, POp.ev, Opd.ev, EOp.ev, env0, gu, gv, setD, List.set, Option.map_some, Option.some.injEq, exists_eq_left', boxH, cellsV]
  have hx1 := Ext.alloc H [.bool b, .int .u64 (h1 : Int), .int .u64 (l1 : Int)]
  have hb1 := alloc_new H [.bool b, .int .u64 (h1 : Int), .int .u64 (l1 : Int)]
  have hl1 : (H.alloc [.bool b, .int .u64 (h1 : Int), .int .u64 (l1 : Int)]).next = H.next + 1 := rfl
  generalize H.alloc [.bool b, .int .u64 (h1 : Int), .int .u64 (l1 : Int)] = H1 at hx1 hb1 hl1 ⊢
  have hx2 := Ext.alloc H1 [.bool c, .int .u64 (h2 : Int), .int .u64 (l2 : Int)]
  have hb2 := alloc_new H1 [.bool c, .int .u64 (h2 : Int), .int .u64 (l2 : Int)]
  have hl2 : (H1.alloc [.bool c, .int .u64 (h2 : Int), .int .u64 (l2 : Int)]).next = H1.next + 1 := rfl
  replace hb1 := (hx2.blk _ (by omega)).trans hb1
  generalize H1.alloc [.bool c, .int .u64 (h2 : Int), .int .u64 (l2 : Int)] = H2 at hx2 hb1 hb2 hl2 ⊢
  have hx := hx1.trans hx2
  have z1 : (decide (h1 = 0 ∧ l1 = 0) = true) → wsv b h1 l1 = 0 := by
    intro h; have := of_decide_eq_true h; rw [this.1, this.2]; cases b; rw [wsv_f, wval_z]; rw [wsv_t, wval_z]; rfl
  have z2 : (decide (h2 = 0 ∧ l2 = 0) = true) → wsv c h2 l2 = 0 := by
    intro h; have := of_decide_eq_true h; rw [this.1, this.2]; cases c; rw [wsv_f, wval_z]; rw [wsv_t, wval_z]; rfl
  have nz : ∀ (h l : Nat), decide (h = 0 ∧ l = 0) = false → 0 < wval h l := by
    intro h l hh; have := of_decide_eq_false hh; unfold wval; omega
  have ge : ∀ (h l : Nat), 0 ≤ wval h l := by intro h l; unfold wval; omega
  have sz : ∀ (d e : Bool) (a1 m1 a2 m2 : Nat) (H3 : AHeap) (K : Value → AHeap → Prop), Ext H2 H3 → m1 < 18446744073709551616 → m2 < 18446744073709551616 → (∀ H4, Ext H2 H4 → K (.int .i64 (sgn3 (wval a1 m1 - wval a2 m2))) H4) → ACalls Tryz.prog lim n_impl_compareSizes [wv d a1 m1, wv e a2 m2] H3 K := by
    intro d e a1 m1 a2 m2 H3 K h3 q1 q2 hK
    have hn3 := h3.next
    refine (compareSizes_ok lim d e a1 m1 a2 m2 H3 (by omega) q1 q2).mono ?_
    rintro _ H4 ⟨rfl, hx4⟩
    exact hK H4 (h3.trans hx4)
  have bk : ∀ H3, Ext H2 H3 → H3.blk H.next = some [.bool b, .int .u64 (h1 : Int), .int .u64 (l1 : Int)] ∧ H3.blk H1.next = some [.bool c, .int .u64 (h2 : Int), .int .u64 (l2 : Int)] := fun H3 h3 => ⟨(h3.blk _ (by omega)).trans hb1, (h3.blk _ (by omega)).trans hb2⟩
  refine s_block ?_
  refine s_test1_I (decide (h1 = 0 ∧ l1 = 0) && decide (h2 = 0 ∧ l2 = 0)) (Ext H2) ?_ (fun H3 h3 hg => ?_) (fun H3 h3 hg => ?_)
  · simp only [o_pure, o_callF, POp.ev, Opd.ev, gv, setD, List.map, Option.some.injEq, exists_eq_left', load3 hb1]
    rw [← hwv b h1]
    refine (isZero_ok lim b h1 l1 H2).mono ?_
    rintro _ H3 ⟨rfl, h3⟩
    cases hz : decide (h1 = 0 ∧ l1 = 0)
    · simp only [o_cont, o_pure, o_guard, gk_ft, o_nil, POp.ev, Opd.ev, gv, setD, Option.some.injEq, exists_eq_left', pickV]
      exact ⟨by simp, trivial, h3⟩
    · simp only [o_cont, o_pure, o_callF, o_guard, gk_tt, POp.ev, Opd.ev, gv, setD, List.map, Option.some.injEq, exists_eq_left', load3 (bk H3 h3).2]
      rw [← hwv c h2]
      refine (isZero_ok lim c h2 l2 H3).mono ?_
      rintro _ H4 ⟨rfl, h4⟩
      simp only [o_cont, o_pure, o_nil, POp.ev, Opd.ev, gv, setD, Option.some.injEq, exists_eq_left', pickV]
      exact ⟨by simp, trivial, h3.trans h4⟩
  · rw [Bool.and_eq_true] at hg
    refine s_reg ?_
    simp only [o_pure, o_nil, POp.ev, Opd.ev, setD, List.set, Option.some.injEq, exists_eq_left']
    refine s_ret1 ?_
    simp +decide only [p_seq_ret, p_block_ret, p_fin_ret, resV, resOne, gv, Option.some.injEq, exists_eq_left']
    exact ⟨by rw [z1 hg.1, z2 hg.2]; rfl, hx.trans h3⟩
  · have hnz : 0 < wval h1 l1 ∨ 0 < wval h2 l2 := by
      rw [Bool.and_eq_false_iff] at hg
      exact hg.imp (nz _ _) (nz _ _)
    have ge1 := ge h1 l1
    have ge2 := ge h2 l2
    obtain ⟨k1, k2⟩ := bk H3 h3
    refine s_test1 ?_
    cases b <;> cases c
    · simp only [o_pure, o_nil, POp.ev, Opd.ev, gv, setD, Option.some.injEq, exists_eq_left', load1V, boolEq, fadV, if_true, beq_self_eq_true, Bool.not_true, List.getElem?_cons_zero, Nat.zero_add, cell_blk k1, cell_blk k2]
      refine Test.false_ (s_test1 ?_)
      simp only [o_pure, o_nil, POp.ev, Opd.ev, gv, setD, Option.some.injEq, exists_eq_left', load1V, fadV, List.getElem?_cons_zero, Nat.zero_add, cell_blk k1]
      refine Test.false_ (s_skip1 ?_)
      simp +decide only [p_seq_normal, p_block_normal]
      refine s_reg ?_
      simp only [o_pure, o_callF, POp.ev, Opd.ev, gv, setD, List.map, Option.some.injEq, exists_eq_left', load3 k1, load3 k2]
      rw [← hwv false h1, ← hwv false h2]
      refine sz false false h1 l1 h2 l2 H3 _ h3 g1 g2 fun H4 h4 => ?_
      simp only [o_cont, o_pure, o_nil, POp.ev, Opd.ev, gv, setD, List.set, Option.some.injEq, exists_eq_left']
      refine s_ret1 ?_
      simp +decide only [p_fin_ret, resV, resOne, gv, Option.some.injEq, exists_eq_left']
      exact ⟨by rw [wsv_f, wsv_f], hx.trans h4⟩
    · simp only [o_pure, o_nil, POp.ev, Opd.ev, gv, setD, Option.some.injEq, exists_eq_left', load1V, boolEq, fadV, if_true, beq_true, Bool.not_false, List.getElem?_cons_zero, Nat.zero_add, cell_blk k1, cell_blk k2]
      refine Test.true_ (s_test ?_)
      simp only [o_pure, o_nil, POp.ev, Opd.ev, gv, setD, Option.some.injEq, exists_eq_left', load1V, fadV, List.getElem?_cons_zero, Nat.zero_add, cell_blk k1]
      refine Test.false_ (s_skip1 ?_)
      simp +decide only [p_seq_normal]
      refine s_reg ?_
      simp only [o_pure, o_nil, POp.ev, Opd.ev, setD, List.set, Option.some.injEq, exists_eq_left']
      refine s_ret1 ?_
      simp +decide only [p_seq_ret, p_block_ret, p_fin_ret, resV, resOne, gv, Option.some.injEq, exists_eq_left']
      refine ⟨?_, hx.trans h3⟩
      have : 0 < wsv false h1 l1 - wsv true h2 l2 := by rw [wsv_f, wsv_t]; omega
      rw [sg3p this]
    · simp only [o_pure, o_nil, POp.ev, Opd.ev, gv, setD, Option.some.injEq, exists_eq_left', load1V, boolEq, fadV, if_true, beq_false, Bool.not_true, Bool.not_false, List.getElem?_cons_zero, Nat.zero_add, cell_blk k1, cell_blk k2]
      refine Test.true_ (s_test ?_)
      simp only [o_pure, o_nil, POp.ev, Opd.ev, gv, setD, Option.some.injEq, exists_eq_left', load1V, fadV, List.getElem?_cons_zero, Nat.zero_add, cell_blk k1]
      refine Test.true_ (s_reg ?_)
      simp only [o_pure, o_nil, POp.ev, Opd.ev, setD, List.set, Option.some.injEq, exists_eq_left']
      refine s_ret1 ?_
      simp +decide only [p_seq_ret, p_block_ret, p_fin_ret, resV, resOne, gv, Option.some.injEq, exists_eq_left']
      refine ⟨?_, hx.trans h3⟩
      have : wsv true h1 l1 - wsv false h2 l2 < 0 := by rw [wsv_f, wsv_t]; omega
      rw [sg3n this]
    · simp only [o_pure, o_nil, POp.ev, Opd.ev, gv, setD, Option.some.injEq, exists_eq_left', load1V, boolEq, fadV, if_true, beq_self_eq_true, Bool.not_true, List.getElem?_cons_zero, Nat.zero_add, cell_blk k1, cell_blk k2]
      refine Test.false_ (s_test1 ?_)
      simp only [o_pure, o_nil, POp.ev, Opd.ev, gv, setD, Option.some.injEq, exists_eq_left', load1V, fadV, List.getElem?_cons_zero, Nat.zero_add, cell_blk k1]
      refine Test.true_ (s_reg ?_)
      simp only [o_pure, o_callF, POp.ev, Opd.ev, gv, setD, List.map, Option.some.injEq, exists_eq_left', load3 k1, load3 k2]
      rw [← hwv true h1, ← hwv true h2]
      refine sz true true h2 l2 h1 l1 H3 _ h3 g2 g1 fun H4 h4 => ?_
      simp only [o_cont, o_pure, o_nil, POp.ev, Opd.ev, gv, setD, List.set, Option.some.injEq, exists_eq_left']
      refine s_ret1 ?_
      simp +decide only [p_seq_ret, p_block_ret, p_fin_ret, resV, resOne, gv, Option.some.injEq, exists_eq_left']
      refine ⟨?_, hx.trans h4⟩
      have : wval h2 l2 - wval h1 l1 = wsv true h1 l1 - wsv true h2 l2 := by rw [wsv_t, wsv_t]; omega
      rw [this]
end Go.Proofs.YtldpdjpchcoigaaGreat

/- Dyadic numbers, the program: compared, added, normed; no condition beyond stated ranges. -/
namespace Go.Proofs.YtldpdjpchcoigaaGreat
open Go.Ab Ints
set_option linter.unusedSimpArgs false
set_option linter.unusedVariables false

theorem wval0 (lo : Nat) : wval 0 lo = (lo : Int) := by unfold wval; rw [Nat.zero_mul, Nat.zero_add]
def bsg (b : Bool) (lo : Nat) : Int := if b then -(lo : Int) else lo
theorem wsv0 (b : Bool) (lo : Nat) : wsv b 0 lo = bsg b lo := by
  cases b
  · rw [wsv_f, wval0]; rfl
  · rw [wsv_t, wval0]; rfl
theorem bsg_abs (n : Int) : bsg (decide (n < 0)) n.natAbs = n := by
  unfold bsg
  by_cases h : n < 0
  · rw [decide_eq_true h, if_pos rfl]; omega
  · rw [decide_eq_false h, if_neg (by decide)]; omega
theorem wsv_shift (n : Int) (d : Nat) : wsv (decide (n < 0)) (n.natAbs * 2 ^ d / 18446744073709551616) (n.natAbs * 2 ^ d % 18446744073709551616) = n * 2 ^ d := by
  have e : wval (n.natAbs * 2 ^ d / 18446744073709551616) (n.natAbs * 2 ^ d % 18446744073709551616) = ((n.natAbs * 2 ^ d : Nat) : Int) := by
    unfold wval
    congr 1
    rw [Nat.mul_comm _ 18446744073709551616]
    exact Nat.div_add_mod _ _
  have e2 : ((n.natAbs * 2 ^ d : Nat) : Int) = (n.natAbs : Int) * 2 ^ d := by rw [Int.natCast_mul, pow_nat]
  by_cases h : n < 0
  · rw [decide_eq_true h, wsv_t, e, e2, ← Int.neg_mul, show -(n.natAbs : Int) = n by omega]
  · rw [decide_eq_false h, wsv_f, e, e2, show (n.natAbs : Int) = n by omega]
theorem compareD_ok (lim : Nat) (n1 k1 n2 k2 : Int) (H : AHeap) (hl : lim ≤ H.next) (h1 : goodD n1 k1 = true) (h2 : goodD n2 k2 = true) :
    ACalls Tryz.prog lim n_impl_compareD [.agg #[vi n1, vi k1], .agg #[vi n2, vi k2]] H fun v H' => v = .int .i64 (cmpD n1 k1 n2 k2) ∧ Ext H H' := by
  obtain ⟨K1, rfl, a1, a2, _⟩ := goodD_all h1
  obtain ⟨K2, rfl, b1, b2, _⟩ := goodD_all h2
  refine is_impl_compareD.go rfl ?_
  unfold c_impl_compareD
  refine s_reg ?_
  simp only [o_pure, o_eff, o_nil, POp.ev, Opd.ev, EOp.ev, env0, gu, gv, setD, List.set, Option.map_some, Option.some.injEq, exists_eq_left', boxH, cellsV]
  have hx1 := Ext.alloc H [vi n1, vi K1]
  have hb1 := alloc_new H [vi n1, vi K1]
  have hl1 : (H.alloc [vi n1, vi K1]).next = H.next + 1 := rfl
  generalize H.alloc [vi n1, vi K1] = H1 at hx1 hb1 hl1 ⊢
  have hx2 := Ext.alloc H1 [vi n2, vi K2]
  have hb2 := alloc_new H1 [vi n2, vi K2]
  have hl2 : (H1.alloc [vi n2, vi K2]).next = H1.next + 1 := rfl
  replace hb1 := (hx2.blk _ (by omega)).trans hb1
  generalize H1.alloc [vi n2, vi K2] = H2 at hx2 hb1 hb2 hl2 ⊢
  obtain ⟨d, hd, d1, d2, d24, hm⟩ : ∃ d : Nat, (if (K2 : Int) > (K1 : Int) then (K2 : Int) else (K1 : Int)) = (d : Int) ∧ K1 ≤ d ∧ K2 ≤ d ∧ d ≤ 24 ∧ d ≤ K1 + K2 := ⟨max K1 K2, by split <;> omega, by omega, by omega, by omega, by omega⟩
  have w1 : IntKind.i64.wrap ((d : Int) - (K1 : Int)) = ((d - K1 : Nat) : Int) := by rw [show (d : Int) - K1 = ((d - K1 : Nat) : Int) by omega]; exact wr_nat (by omega)
  have w2 : IntKind.i64.wrap ((d : Int) - (K2 : Int)) = ((d - K2 : Nat) : Int) := by rw [show (d : Int) - K2 = ((d - K2 : Nat) : Int) by omega]; exact wr_nat (by omega)
  refine s_reg ?_
  simp only [o_pure, o_nil, POp.ev, Opd.ev, gv, setD, List.set, Option.some.injEq, exists_eq_left', load1V, max2V, fadV, List.getElem?_cons_zero, List.getElem?_cons_succ, Nat.zero_add, cell_blk hb1, cell_blk hb2, hd]
  refine s_reg ?_
  simp only [o_pure, o_callN, POp.ev, Opd.ev, gv, setD, List.map, Option.some.injEq, exists_eq_left', binV, load1V, fadV, ne_eq, not_true_eq_false, if_false, List.getElem?_cons_zero, List.getElem?_cons_succ, Nat.zero_add, cell_blk hb1, cell_blk hb2, w1, w2]
  refine (wideOf_ok _ n1 H2 (Nat.le_refl _) (by omega)).use ?_
  rintro _ H3 ⟨rfl, hx3⟩ _
  simp only [o_cont, o_callN, Opd.ev, gv, setD, List.map]
  refine (shift_up _ _ n1.natAbs (d - K1) H3 (Nat.le_refl _) (by omega) (by omega)).use ?_
  rintro _ H4 ⟨rfl, hx4⟩ _
  simp only [o_cont, o_callN, Opd.ev, gv, setD, List.map]
  refine (wideOf_ok _ n2 H4 (Nat.le_refl _) (by omega)).use ?_
  rintro _ H5 ⟨rfl, hx5⟩ _
  have hn := (((hx3.trans hx4).trans hx5)).next
  simp only [o_cont, o_callF, Opd.ev, gv, setD, List.map]
  refine (shift_up lim _ n2.natAbs (d - K2) H5 (by omega) (by omega) (by omega)).mono ?_
  rintro _ H6 ⟨rfl, hx6⟩
  have hn6 := hx6.next
  simp only [o_cont, o_callF, Opd.ev, gv, setD, List.map]
  refine (compareWide_ok lim _ _ _ _ _ _ H6 (by omega) (Nat.mod_lt _ (by decide)) (Nat.mod_lt _ (by decide))).mono ?_
  rintro _ H7 ⟨rfl, hx7⟩
  simp only [o_cont, o_pure, o_nil, POp.ev, Opd.ev, gv, setD, List.set, Option.some.injEq, exists_eq_left']
  refine s_ret1 ?_
  simp +decide only [p_fin_ret, resV, resOne, gv, Option.some.injEq, exists_eq_left']
  refine ⟨?_, ((((hx1.trans hx2).trans hx3).trans hx4).trans hx5).trans (hx6.trans hx7)⟩
  rw [wsv_shift, wsv_shift]
  unfold cmpD
  rw [Int.toNat_natCast, Int.toNat_natCast]
  have hc : (0 : Int) < 2 ^ (K1 + K2 - d) := by have := pow_pos2 (K1 + K2 - d); omega
  rw [← sgn3_mul hc]
  congr 1
  have q1 : (2 : Int) ^ K2 = 2 ^ (d - K1) * 2 ^ (K1 + K2 - d) := by rw [← Int.pow_add]; congr 1; omega
  have q2 : (2 : Int) ^ K1 = 2 ^ (d - K2) * 2 ^ (K1 + K2 - d) := by rw [← Int.pow_add]; congr 1; omega
  rw [q1, q2]
  grind
/-- a sum -/
theorem add_ok (lim : Nat) (b c : Bool) (l1 l2 : Nat) (H : AHeap) (hl : lim ≤ H.next) (h1 : l1 < 4611686018427387904) (h2 : l2 < 4611686018427387904) :
    ACalls Tryz.prog lim n_impl_wide_add [wv b 0 l1, wv c 0 l2] H fun v H' => (∃ (d : Bool) (m : Nat), v = wv d 0 m ∧ bsg d m = bsg b l1 + bsg c l2 ∧ m ≤ l1 + l2) ∧ Ext H H' := by
  refine is_impl_wide_add.go rfl ?_
  unfold c_impl_wide_add
  have hwv : ∀ b l, wv b 0 l = .agg #[.bool b, .int .u64 ((0 : Nat) : Int), .int .u64 ((l : Nat) : Int)] := fun _ _ => rfl
  rw [hwv b, hwv c]
  refine s_reg ?_
  simp only [o_eff, o_nil, Opd.ev, EOp.ev, env0, gu, gv, setD, List.set, Option.map_some, Option.some.injEq, exists_eq_left', boxH, cellsV]
  have hx1 := Ext.alloc H [.bool b, .int .u64 ((0 : Nat) : Int), .int .u64 (l1 : Int)]
  have hb1 := alloc_new H [.bool b, .int .u64 ((0 : Nat) : Int), .int .u64 (l1 : Int)]
  have hl1 : (H.alloc [.bool b, .int .u64 ((0 : Nat) : Int), .int .u64 (l1 : Int)]).next = H.next + 1 := rfl
  generalize H.alloc [.bool b, .int .u64 ((0 : Nat) : Int), .int .u64 (l1 : Int)] = H1 at hx1 hb1 hl1 ⊢
  have hx2 := Ext.alloc H1 [.bool c, .int .u64 ((0 : Nat) : Int), .int .u64 (l2 : Int)]
  have hb2 := alloc_new H1 [.bool c, .int .u64 ((0 : Nat) : Int), .int .u64 (l2 : Int)]
  have hl2 : (H1.alloc [.bool c, .int .u64 ((0 : Nat) : Int), .int .u64 (l2 : Int)]).next = H1.next + 1 := rfl
  replace hb1 := (hx2.blk _ (by omega)).trans hb1
  generalize H1.alloc [.bool c, .int .u64 ((0 : Nat) : Int), .int .u64 (l2 : Int)] = H2 at hx2 hb1 hb2 hl2 ⊢
  have hx3 := Ext.alloc H2 [.bool false, .int .u64 0, .int .u64 0]
  have hb3 := alloc_new H2 [.bool false, .int .u64 0, .int .u64 0]
  have hl3 : (H2.alloc [.bool false, .int .u64 0, .int .u64 0]).next = H2.next + 1 := rfl
  replace hb1 := (hx3.blk _ (by omega)).trans hb1
  replace hb2 := (hx3.blk _ (by omega)).trans hb2
  generalize H2.alloc [.bool false, .int .u64 0, .int .u64 0] = H3 at hx3 hb1 hb2 hb3 hl3 ⊢
  have hx := (hx1.trans hx2).trans hx3
  generalize hq2 : H.next = q2 at *
  generalize hq3 : H1.next = q3 at *
  generalize hq4 : H2.next = q4 at *
  have cz : (((0 : Nat) : Int)) = 0 := rfl
  refine s_test ?_
  simp only [o_pure, o_nil, POp.ev, Opd.ev, gv, setD, Option.some.injEq, exists_eq_left', load1V, boolEq, fadV, if_false, Bool.false_eq_true, List.getElem?_cons_zero, Nat.zero_add, cell_blk hb1, cell_blk hb2]
  refine Test.split (fun hh => ?_) (fun hh => ?_)
  · have hbc : b = c := by cases b <;> cases c <;> first | rfl | (cases hh)
    subst hbc
    have m1 : (l1 + l2 + 0) % 18446744073709551616 = l1 + l2 := by omega
    have m2 : (l1 + l2 + 0) / 18446744073709551616 = 0 := by omega
    have m3 : (0 + 0 + 0) % 18446744073709551616 = 0 := by decide
    refine s_reg ?_
    simp only [o_pure, o_callF, POp.ev, Opd.ev, gv, setD, List.map, Option.some.injEq, exists_eq_left', load1V, fadV, List.getElem?_cons_zero, List.getElem?_cons_succ, Nat.zero_add, cell_blk hb1, cell_blk hb2]
    refine (add64_ok lim l1 l2 0 (by omega) H3).mono ?_
    rintro _ HH ⟨rfl, hh⟩
    subst HH
    simp only [o_cont, o_pure, o_nil, POp.ev, Opd.ev, gv, setD, List.set, Option.some.injEq, exists_eq_left', extV, List.getElem?_toArray, List.getElem?_cons_zero, List.getElem?_cons_succ, m1, m2]
    refine s_reg ?_
    simp only [o_pure, o_callF, POp.ev, Opd.ev, gv, setD, List.map, Option.some.injEq, exists_eq_left', load1V, fadV, List.getElem?_cons_zero, List.getElem?_cons_succ, Nat.zero_add, cell_blk hb1, cell_blk hb2]
    refine (add64_ok lim 0 0 0 (by omega) H3).mono ?_
    rintro _ HH ⟨rfl, hh⟩
    subst HH
    simp only [o_cont, o_pure, o_nil, POp.ev, Opd.ev, gv, setD, List.set, Option.some.injEq, exists_eq_left', extV, List.getElem?_toArray, List.getElem?_cons_zero, List.getElem?_cons_succ, m3]
    refine s_reg ?_
    simp only [o_pure, o_eff, o_nil, POp.ev, Opd.ev, EOp.ev, gv, setD, List.map, Option.map_some, Option.some.injEq, exists_eq_left', load1V, fadV, List.getElem?_cons_zero, Nat.zero_add, cell_blk hb1, fillW, store3 (lim := lim) (show lim ≤ q4 by omega) hb3]
    refine s_ret1 ?_
    simp +decide only [p_seq_ret, p_fin_ret, resV, resOne, gv, Option.some.injEq, exists_eq_left', load3 (put_same _ _ _)]
    exact ⟨⟨b, l1 + l2, rfl, by cases b <;> simp [bsg] <;> omega, Nat.le_refl _⟩, Chg.ext hx (Chg.put _ _ _) (by omega)⟩
  · have hbc : c = !b := by cases b <;> cases c <;> first | rfl | (cases hh)
    subst hbc
    refine s_skip1 ?_
    simp +decide only [p_seq_normal]
    refine s_cut (fun e' H' => ∃ (d : Bool) (x y : Nat), y ≤ x ∧ (d = b ∧ x = l1 ∧ y = l2 ∨ d = !b ∧ x = l2 ∧ y = l1) ∧ H'.blk q2 = some [.bool d, .int .u64 ((0 : Nat) : Int), .int .u64 (x : Int)] ∧ H'.blk q3 = some [.bool !d, .int .u64 ((0 : Nat) : Int), .int .u64 (y : Int)] ∧ H'.blk q4 = some [.bool false, .int .u64 0, .int .u64 0] ∧ Ext H H' ∧
      e' = [.agg #[.bool b, .int .u64 ((0 : Nat) : Int), .int .u64 (l1 : Int)], .agg #[.bool !b, .int .u64 ((0 : Nat) : Int), .int .u64 (l2 : Int)], .pointer (some ⟨q2, 0, none⟩), .pointer (some ⟨q3, 0, none⟩), .pointer (some ⟨q4, 0, none⟩), undef, undef, undef, undef, undef, undef]) ?_ ?_
    · refine s_test1 ?_
      simp only [o_pure, o_callF, POp.ev, Opd.ev, gv, setD, List.map, Option.some.injEq, exists_eq_left', load3 hb1, load3 hb2]
      rw [← hwv b l1, ← hwv (!b) l2]
      refine (compareSizes_ok lim b (!b) 0 l1 0 l2 H3 (by omega) (by omega) (by omega)).mono ?_
      rintro _ H4 ⟨rfl, hx4⟩
      rw [wval0, wval0]
      have hn4 := hx4.next
      replace hb1 := (hx4.blk _ (by omega)).trans hb1
      replace hb2 := (hx4.blk _ (by omega)).trans hb2
      replace hb3 := (hx4.blk _ (by omega)).trans hb3
      simp only [o_cont, o_pure, o_nil, POp.ev, Opd.ev, gv, setD, Option.some.injEq, exists_eq_left', binV, ne_eq, not_true_eq_false, if_false]
      refine Test.split (fun hg => ?_) (fun hg => ?_)
      · have hlt : l1 < l2 := by
          have := of_decide_eq_true hg
          rcases sgn3_cases ((l1 : Int) - l2) with h | h | h <;> omega
        have hb2' : (H4.put q2 [.bool !b, .int .u64 ((0 : Nat) : Int), .int .u64 (l2 : Int)]).blk q3 = some [.bool !b, .int .u64 ((0 : Nat) : Int), .int .u64 (l2 : Int)] := by rw [put_ne _ _ (by omega)]; exact hb2
        refine s_reg1 ?_
        simp only [o_pure, o_eff, o_nil, POp.ev, Opd.ev, EOp.ev, gv, setD, Option.some.injEq, exists_eq_left', load3 hb1, load3 hb2, store3 (lim := lim) (show lim ≤ q2 by omega) hb1, store3 (lim := lim) (show lim ≤ q3 by omega) hb2']
        simp +decide only [p_seq_normal]
        refine ⟨!b, l2, l1, by omega, .inr ⟨rfl, rfl, rfl⟩, by rw [put_ne _ _ (by omega)]; exact put_same _ _ _, by rw [Bool.not_not]; exact put_same _ _ _, by rw [put_ne _ _ (by omega), put_ne _ _ (by omega)]; exact hb3, Chg.ext (Chg.ext (hx.trans hx4) (Chg.put _ _ _) (by omega)) (Chg.put _ _ _) (by omega), trivial⟩
      · have hge : l2 ≤ l1 := by
          have := of_decide_eq_false hg
          rcases sgn3_cases ((l1 : Int) - l2) with h | h | h <;> omega
        refine s_skip1 ?_
        simp +decide only [p_seq_normal]
        exact ⟨b, l1, l2, hge, .inl ⟨rfl, rfl, rfl⟩, hb1, hb2, hb3, hx.trans hx4, trivial⟩
    · rintro e' H4 ⟨d, x, y, hyx, hd, k1, k2, k3, hx4, rfl⟩
      have m1 : (x + 18446744073709551616 - y - 0) % 18446744073709551616 = x - y := by rcases hd with ⟨_, rfl, rfl⟩ | ⟨_, rfl, rfl⟩ <;> omega
      have m2 : (if x < y + 0 then 1 else 0 : Nat) = 0 := by rw [if_neg (by omega)]
      have m3 : (0 + 18446744073709551616 - 0 - 0) % 18446744073709551616 = 0 := by decide
      refine s_reg ?_
      simp only [o_pure, o_callF, POp.ev, Opd.ev, gv, setD, List.map, Option.some.injEq, exists_eq_left', load1V, fadV, List.getElem?_cons_zero, List.getElem?_cons_succ, Nat.zero_add, cell_blk k1, cell_blk k2]
      refine (sub64_ok lim x y 0 (by omega) H4).mono ?_
      rintro _ HH ⟨rfl, hh⟩
      subst HH
      simp only [o_cont, o_pure, o_nil, POp.ev, Opd.ev, gv, setD, List.set, Option.some.injEq, exists_eq_left', extV, List.getElem?_toArray, List.getElem?_cons_zero, List.getElem?_cons_succ, m1, m2]
      refine s_reg ?_
      simp only [o_pure, o_callF, POp.ev, Opd.ev, gv, setD, List.map, Option.some.injEq, exists_eq_left', load1V, fadV, List.getElem?_cons_zero, List.getElem?_cons_succ, Nat.zero_add, cell_blk k1, cell_blk k2]
      refine (sub64_ok lim 0 0 0 (by omega) H4).mono ?_
      rintro _ HH ⟨rfl, hh⟩
      subst HH
      simp only [o_cont, o_pure, o_nil, POp.ev, Opd.ev, gv, setD, List.set, Option.some.injEq, exists_eq_left', extV, List.getElem?_toArray, List.getElem?_cons_zero, List.getElem?_cons_succ, m3]
      refine s_reg ?_
      simp only [o_pure, o_eff, o_nil, POp.ev, Opd.ev, EOp.ev, gv, setD, List.map, Option.map_some, Option.some.injEq, exists_eq_left', load1V, fadV, List.getElem?_cons_zero, Nat.zero_add, cell_blk k1, fillW, store3 (lim := lim) (show lim ≤ q4 by omega) k3]
      refine s_ret1 ?_
      simp +decide only [p_fin_ret, resV, resOne, gv, Option.some.injEq, exists_eq_left', load3 (put_same _ _ _)]
      refine ⟨⟨d, x - y, rfl, ?_, ?_⟩, Chg.ext hx4 (Chg.put _ _ _) (by omega)⟩
      · rcases hd with ⟨rfl, rfl, rfl⟩ | ⟨rfl, rfl, rfl⟩
        · cases d <;> simp [bsg] <;> omega
        · cases b <;> simp [bsg] <;> omega
      · rcases hd with ⟨_, rfl, rfl⟩ | ⟨_, rfl, rfl⟩ <;> omega
end Go.Proofs.YtldpdjpchcoigaaGreat

/- Dyadic numbers, the program: sums and middles in normal form, the greater and the lesser; no condition beyond stated ranges. -/
namespace Go.Proofs.YtldpdjpchcoigaaGreat
open Go.Ab Ints
set_option linter.unusedSimpArgs false
set_option linter.unusedVariables false

theorem dnorm_zero : ∀ k : Nat, dnorm 0 k = (0, 0)
  | 0 => rfl
  | k + 1 => by rw [dnorm, if_pos (by decide)]; exact dnorm_zero k
theorem bsg_even {b : Bool} {lo : Nat} (h : lo % 2 = 0) : bsg b lo % 2 = 0 ∧ bsg b lo / 2 = bsg b (lo / 2) := by
  cases b <;> simp only [bsg, Bool.false_eq_true, if_true, if_false] <;> omega
theorem bsg_odd {b : Bool} {lo : Nat} (h : lo % 2 = 1) : bsg b lo % 2 = 1 := by
  cases b <;> simp only [bsg, Bool.false_eq_true, if_true, if_false] <;> omega
theorem fit_ok (lim : Nat) (b : Bool) (lo k : Nat) (H : AHeap) (hl : lim ≤ H.next) (hlo : lo ≤ 1099511627776) (hk : k ≤ 24) :
    ACalls Tryz.prog lim n_impl_wide_fit [wv b 0 lo, .int .i64 (k : Int)] H fun v H' => v = .tuple #[dV (dnorm (bsg b lo) k), .bool true] ∧ Ext H H' := by
  refine is_impl_wide_fit.go rfl ?_
  unfold c_impl_wide_fit
  have hwv : ∀ b l, wv b 0 l = .agg #[.bool b, .int .u64 ((0 : Nat) : Int), .int .u64 ((l : Nat) : Int)] := fun _ _ => rfl
  rw [hwv b]
  refine s_reg ?_
  simp only [o_pure, o_eff, o_nil, POp.ev, Opd.ev, EOp.ev, env0, gu, gv, setD, List.set, Option.map_some, Option.some.injEq, exists_eq_left', boxH, cellsV]
  have hx1 := Ext.alloc H [.bool b, .int .u64 ((0 : Nat) : Int), .int .u64 (lo : Int)]
  have hb1 := alloc_new H [.bool b, .int .u64 ((0 : Nat) : Int), .int .u64 (lo : Int)]
  have hl1 : (H.alloc [.bool b, .int .u64 ((0 : Nat) : Int), .int .u64 (lo : Int)]).next = H.next + 1 := rfl
  generalize H.alloc [.bool b, .int .u64 ((0 : Nat) : Int), .int .u64 (lo : Int)] = H1 at hx1 hb1 hl1 ⊢
  have hx2 := Ext.alloc H1 [.int .i64 0, .int .i64 0]
  have hb2 := alloc_new H1 [.int .i64 0, .int .i64 0]
  have hl2 : (H1.alloc [.int .i64 0, .int .i64 0]).next = H1.next + 1 := rfl
  replace hb1 := (hx2.blk _ (by omega)).trans hb1
  generalize H1.alloc [.int .i64 0, .int .i64 0] = H2 at hx2 hb1 hb2 hl2 ⊢
  have hx := hx1.trans hx2
  generalize hq2 : H.next = q2 at *
  generalize hq3 : H1.next = q3 at *
  refine s_test ?_
  simp only [o_pure, o_callF, POp.ev, Opd.ev, gv, setD, List.map, Option.some.injEq, exists_eq_left', load3 hb1]
  rw [← hwv b lo]
  refine (isZero_ok lim b 0 lo H2).mono ?_
  rintro _ H3 ⟨rfl, hx3⟩
  have hn3 := hx3.next
  replace hb1 := (hx3.blk _ (by omega)).trans hb1
  replace hb2 := (hx3.blk _ (by omega)).trans hb2
  have hxx := hx.trans hx3
  simp only [o_cont, o_nil, gv, setD]
  refine Test.split (fun hh => ?_) (fun hh => ?_)
  · have h0 : lo = 0 := (of_decide_eq_true hh).2
    have hf2 : fillV [vi 0, vi 0] [] = some [vi 0, vi 0] := rfl
    refine s_reg ?_
    simp only [o_pure, o_eff, o_nil, POp.ev, Opd.ev, EOp.ev, gv, setD, List.set, List.map, Option.map_some, Option.some.injEq, exists_eq_left', hf2, store2 (lim := lim) (show lim ≤ q3 by omega) hb2]
    refine s_ret1 ?_
    simp +decide only [p_seq_ret, p_fin_ret, resV, resOne, resL, gv, Option.some.injEq, exists_eq_left', Option.bind_some, Option.map_some, resL, load2 (put_same _ _ _)]
    refine ⟨?_, Chg.ext hxx (Chg.put _ _ _) (by omega)⟩
    have : bsg b lo = 0 := by rw [h0]; cases b <;> rfl
    rw [this, dnorm_zero]
    rfl
  · have h0 : lo ≠ 0 := fun e => (of_decide_eq_false hh) ⟨trivial, e⟩
    refine s_skip1 ?_
    simp +decide only [p_seq_normal]
    refine s_block ?_
    refine s_loop1 (fun w e' H' => ∃ (x j : Nat), j = w ∧ j ≤ 24 ∧ x ≤ lo ∧ dnorm (bsg b lo) k = dnorm (bsg b x) j ∧ H'.blk q2 = some [.bool b, .int .u64 ((0 : Nat) : Int), .int .u64 (x : Int)] ∧ H'.blk q3 = some [.int .i64 0, .int .i64 0] ∧ q3 < H'.next ∧ Ext H H' ∧
      e' = [wv b 0 lo, .int .i64 (j : Int), .pointer (some ⟨q2, 0, none⟩), .pointer (some ⟨q3, 0, none⟩), .bool false, undef]) k ⟨lo, k, rfl, hk, Nat.le_refl _, rfl, hb1, hb2, by omega, hxx, rfl⟩ ?_
    clear hb1 hb2 hxx hx3 hn3 hx hx2
    rintro w e' G ⟨x, j, rfl, hj, hxl, hdn, hb1, hb2, hql, hx, rfl⟩
    have hn0 := hx.next
    have e2 : ¬ (2 : Int) = 0 := by decide
    have t2 : (x : Int).tmod 2 = ((x % 2 : Nat) : Int) := rfl
    refine s_test_same (decide (0 < j) && decide (x % 2 = 0)) ?_ (fun hg => ?_) (fun hg => ?_)
    · by_cases h : 0 < j
      · have d : decide ((j : Int) > 0) = true := by simp; omega
        simp only [o_pure, o_guard, gk_tt, o_nil, POp.ev, Opd.ev, gv, setD, Option.some.injEq, exists_eq_left', pickV, binV, load1V, fadV, ne_eq, not_true_eq_false, if_false, List.getElem?_cons_zero, List.getElem?_cons_succ, d, Nat.zero_add, cell_blk hb1, e2, t2, nat_eq0]
        simp [h]
      · have d : decide ((j : Int) > 0) = false := by simp; omega
        simp only [o_pure, o_guard, gk_ft, o_nil, POp.ev, Opd.ev, gv, setD, Option.some.injEq, exists_eq_left', pickV, binV, ne_eq, not_true_eq_false, if_false, d]
        simp [h]
    · simp only [Bool.and_eq_true, decide_eq_true_eq] at hg
      obtain ⟨j', rfl⟩ : ∃ j', j = j' + 1 := ⟨j - 1, by omega⟩
      obtain ⟨v1, v2⟩ := bsg_even (b := b) hg.2
      have w1 : IntKind.i64.wrap (((j' + 1 : Nat) : Int) - 1) = (j' : Int) := by rw [show ((j' + 1 : Nat) : Int) - 1 = (j' : Int) by omega]; exact wr_nat (by omega)
      refine s_skip1 ?_
      simp +decide only [p_seq_normal]
      refine s_block1 ?_
      refine s_reg ?_
      simp only [o_pure, o_callF, POp.ev, Opd.ev, gv, setD, List.map, Option.some.injEq, exists_eq_left', load3 hb1]
      rw [← hwv b x]
      refine (shift_down lim b x G (by omega) (by omega)).mono ?_
      rintro _ G1 ⟨rfl, hg1⟩
      have hn1 := hg1.next
      replace hb1 := (hg1.blk _ (by omega)).trans hb1
      replace hb2 := (hg1.blk _ (by omega)).trans hb2
      simp only [o_cont, o_eff, o_nil, Opd.ev, EOp.ev, gv, setD, Option.some.injEq, exists_eq_left', hwv b (x / 2), store3 (lim := lim) (show lim ≤ q2 by omega) hb1]
      refine s_reg1 ?_
      simp only [o_pure, o_nil, POp.ev, Opd.ev, gv, setD, List.set, Option.some.injEq, exists_eq_left', binV, ne_eq, not_true_eq_false, if_false, w1]
      simp +decide only [p_seq_normal, p_block_normal]
      refine Round.mk j' (by omega) ⟨x / 2, j', rfl, by omega, by omega, ?_, put_same _ _ _, by rw [put_ne _ _ (by omega)]; exact hb2, by rw [put_next]; omega, Chg.ext (hx.trans hg1) (Chg.put _ _ _) (by omega), rfl⟩
      rw [hdn, dnorm, if_pos v1, v2]
    · refine s_exit1 ?_
      simp +decide only [p_seq_normal, p_seq_exit, p_block_exit, reduceIte]
      have hstop : dnorm (bsg b x) j = (bsg b x, j) := by
        refine dnorm_self ?_
        simp only [Bool.and_eq_false_iff, decide_eq_false_iff_not] at hg
        rcases hg with hg | hg
        · left; omega
        · right; exact bsg_odd (by omega)
      have d1 : decide ((j : Int) > 24) = false := by simp; omega
      have d2 : decide (((0 : Nat) : Int) > 0) = false := by decide
      have d3 : decide ((x : Int) > 1099511627776) = false := by simp; omega
      refine s_test ?_
      simp only [o_pure, o_guard, gk_ff, o_nil, POp.ev, Opd.ev, gv, setD, Option.some.injEq, exists_eq_left', pickV, binV, load1V, fadV, ne_eq, not_true_eq_false, if_false, List.getElem?_cons_zero, List.getElem?_cons_succ, d1, Nat.zero_add, cell_blk hb1, d2, d3]
      refine Test.false_ (s_skip1 ?_)
      simp +decide only [p_seq_normal]
      have w2 : IntKind.i64.wrap (x : Int) = (x : Int) := wr_nat (by omega)
      have w3 : IntKind.i64.wrap (0 - (x : Int)) = -(x : Int) := by rw [Int.zero_sub]; exact wr_id (by omega) (by omega)
      refine s_reg ?_
      simp only [o_pure, o_nil, POp.ev, Opd.ev, gv, setD, List.set, Option.some.injEq, exists_eq_left', convV, load1V, fadV, List.getElem?_cons_zero, List.getElem?_cons_succ, Nat.zero_add, cell_blk hb1, w2]
      refine s_cut (fun e' H' => H' = G ∧ e' = [wv b 0 lo, .int .i64 (j : Int), .pointer (some ⟨q2, 0, none⟩), .pointer (some ⟨q3, 0, none⟩), .bool false, .int .i64 (bsg b x)]) ?_ ?_
      · refine s_test1 ?_
        simp only [o_pure, o_nil, POp.ev, Opd.ev, gv, setD, Option.some.injEq, exists_eq_left', load1V, fadV, List.getElem?_cons_zero, Nat.zero_add, cell_blk hb1]
        refine Test.split (fun hb => ?_) (fun hb => ?_)
        · refine s_reg1 ?_
          simp only [o_pure, o_nil, POp.ev, Opd.ev, gv, setD, List.set, Option.some.injEq, exists_eq_left', unV, w3]
          simp +decide only [p_seq_normal]
          exact ⟨trivial, by rw [hb]; rfl⟩
        · refine s_skip1 ?_
          simp +decide only [p_seq_normal]
          exact ⟨trivial, by rw [hb]; rfl⟩
      · rintro e' _ ⟨rfl, rfl⟩
        have hf2 : ∀ a c : Int, fillV [vi 0, vi 0] [(0, 1, .int .i64 a), (1, 1, .int .i64 c)] = some [vi a, vi c] := fun a c => fill2 _ _ _ _
        refine s_reg ?_
        simp only [o_pure, o_eff, o_nil, POp.ev, Opd.ev, EOp.ev, gv, setD, List.set, List.map, Option.map_some, Option.some.injEq, exists_eq_left', hf2, store2 (lim := lim) (show lim ≤ q3 by omega) hb2]
        refine s_ret1 ?_
        simp +decide only [p_fin_ret, resV, resOne, resL, gv, Option.some.injEq, exists_eq_left', Option.bind_some, Option.map_some, resL, load2 (put_same _ _ _)]
        refine ⟨?_, Chg.ext hx (Chg.put _ _ _) (by omega)⟩
        rw [hdn, hstop]
        rfl
theorem sum_parts (lim : Nat) (n m : Int) (d1 d2 : Nat) (G : AHeap) (K : Value → AHeap → Prop) (hl : lim ≤ G.next) (hn : n.natAbs ≤ 1048576) (hm : m.natAbs ≤ 1048576) (h1 : d1 ≤ 10) (h2 : d2 ≤ 10)
    (hK : ∀ v G', (∃ (d : Bool) (x : Nat), v = wv d 0 x ∧ bsg d x = n * 2 ^ d1 + m * 2 ^ d2 ∧ x ≤ 4294967296) ∧ Ext G G' → K v G') :
    ∀ (b1 b2 : Value), b1 = wv (decide (n < 0)) (n.natAbs * 2 ^ d1 / 18446744073709551616) (n.natAbs * 2 ^ d1 % 18446744073709551616) → b2 = wv (decide (m < 0)) (m.natAbs * 2 ^ d2 / 18446744073709551616) (m.natAbs * 2 ^ d2 % 18446744073709551616) → ACalls Tryz.prog lim n_impl_wide_add [b1, b2] G K := by
  rintro b1 b2 rfl rfl
  have bnd : ∀ (x : Int) (d : Nat), x.natAbs ≤ 1048576 → d ≤ 10 → x.natAbs * 2 ^ d ≤ 1073741824 := by
    intro x d hx hd
    have : 2 ^ d ≤ 2 ^ 10 := Nat.pow_le_pow_right (by decide) hd
    have := Nat.mul_le_mul hx this
    omega
  have a1 := bnd n d1 hn h1
  have a2 := bnd m d2 hm h2
  have q1 := wsv_shift n d1
  have q2 := wsv_shift m d2
  rw [Nat.div_eq_of_lt (by omega), Nat.mod_eq_of_lt (by omega), wsv0] at q1
  rw [Nat.div_eq_of_lt (by omega), Nat.mod_eq_of_lt (by omega), wsv0] at q2
  rw [Nat.div_eq_of_lt (show n.natAbs * 2 ^ d1 < 18446744073709551616 by omega), Nat.mod_eq_of_lt (show n.natAbs * 2 ^ d1 < 18446744073709551616 by omega), Nat.div_eq_of_lt (show m.natAbs * 2 ^ d2 < 18446744073709551616 by omega), Nat.mod_eq_of_lt (show m.natAbs * 2 ^ d2 < 18446744073709551616 by omega)]
  refine (add_ok lim _ _ _ _ G hl (by omega) (by omega)).mono ?_
  rintro v G' ⟨⟨d, x, rfl, e, hx⟩, hg⟩
  exact hK _ _ ⟨⟨d, x, rfl, by rw [e, q1, q2], by omega⟩, hg⟩
end Go.Proofs.YtldpdjpchcoigaaGreat

/- Numbers of 32nds, the program: sums, middles, the greater and the lesser; no condition beyond stated ranges. -/
namespace Go.Proofs.YtldpdjpchcoigaaGreat
open Go.Ab Ints
set_option linter.unusedSimpArgs false
set_option linter.unusedVariables false

theorem dv_eq (d : Int × Nat) : dV d = .agg #[vi d.1, vi d.2] := rfl
theorem dnorm_neg : ∀ (n : Int) (k : Nat), dnorm (-n) k = (-(dnorm n k).1, (dnorm n k).2)
  | n, 0 => rfl
  | n, k + 1 => by
    rw [dnorm, dnorm]
    by_cases h : n % 2 = 0
    · rw [if_pos h, if_pos (by omega), show -n / 2 = -(n / 2) by omega, dnorm_neg (n / 2) k]
    · rw [if_neg h, if_neg (by omega)]
theorem minus_ok (lim : Nat) (l : Int) (H : AHeap) (hl : lim ≤ H.next) (h : l.natAbs ≤ 100000) : ACalls Tryz.prog lim n_impl_minus [dV (dn l)] H fun v H' => v = dV (dn (-l)) ∧ Ext H H' := by
  refine is_impl_minus.go rfl ?_
  have e : dn (-l) = (-(dn l).1, (dn l).2) := dnorm_neg l 5
  rw [e, dv_eq, dv_eq]
  have ha := dn_abs l
  generalize dn l = d at *
  unfold c_impl_minus
  refine s_reg ?_
  simp only [o_eff, o_nil, Opd.ev, EOp.ev, env0, gu, gv, setD, List.set, Option.map_some, Option.some.injEq, exists_eq_left', boxH, cellsV]
  have hx1 := Ext.alloc H [vi d.1, vi d.2]
  have hb1 := alloc_new H [vi d.1, vi d.2]
  have hl1 : (H.alloc [vi d.1, vi d.2]).next = H.next + 1 := rfl
  generalize H.alloc [vi d.1, vi d.2] = H1 at hx1 hb1 hl1 ⊢
  have hx2 := Ext.alloc H1 [vi 0, vi 0]
  have hb2 := alloc_new H1 [vi 0, vi 0]
  replace hb1 := (hx2.blk _ (by omega)).trans hb1
  generalize H1.alloc [vi 0, vi 0] = H2 at hx2 hb1 hb2 ⊢
  have w : IntKind.i64.wrap (0 - d.1) = -d.1 := by rw [Int.zero_sub]; exact wr_id (by omega) (by omega)
  refine s_reg ?_
  simp only [o_pure, o_eff, o_nil, POp.ev, Opd.ev, EOp.ev, gv, setD, List.map, Option.map_some, Option.some.injEq, exists_eq_left', load1V, unV, fadV, List.getElem?_cons_zero, List.getElem?_cons_succ, Nat.zero_add, cell_blk hb1, w, fill2, store2 (lim := lim) (show lim ≤ H1.next by omega) hb2]
  refine s_ret1 ?_
  simp +decide only [p_fin_ret, resV, resOne, gv, Option.some.injEq, exists_eq_left', load2 (put_same _ _ _)]
  exact ⟨trivial, Chg.ext (hx1.trans hx2) (Chg.put _ _ _) (by omega)⟩
theorem integer_ok (lim : Nat) (n : Int) (H : AHeap) (hl : lim ≤ H.next) : ACalls Tryz.prog lim n_impl_integer [.int .i64 n] H fun v H' => v = .agg #[vi n, vi 0] ∧ Ext H H' := by
  refine is_impl_integer.go rfl ?_
  unfold c_impl_integer
  refine s_reg ?_
  simp only [o_eff, o_nil, EOp.ev, env0, gu, setD, List.set, Option.some.injEq, exists_eq_left']
  have hx := Ext.alloc H [.int .i64 0, .int .i64 0]
  have hb : (H.alloc [.int .i64 0, .int .i64 0]).blk H.next = some [.int .i64 0, .int .i64 0] := alloc_new _ _
  generalize H.alloc [.int .i64 0, .int .i64 0] = H1 at hx hb ⊢
  have hf : fillV [.int .i64 0, .int .i64 0] [(0, 1, .int .i64 n)] = some [vi n, vi 0] := by simp [fillV, cellsV]
  refine s_reg ?_
  simp only [o_pure, o_eff, o_nil, POp.ev, Opd.ev, EOp.ev, gv, setD, List.map, Option.map_some, Option.some.injEq, exists_eq_left', hf, store2 (lim := lim) hl hb]
  refine s_ret1 ?_
  simp +decide only [p_fin_ret, resV, resOne, gv, Option.some.injEq, exists_eq_left', load2 (put_same _ _ _)]
  exact ⟨trivial, Chg.ext hx (Chg.put _ _ _) (Nat.le_refl _)⟩
theorem dn_m8 : dV (dn (-256)) = .agg #[vi (-8), vi 0] := rfl
theorem dn_8 : dV (dn 256) = .agg #[vi 8, vi 0] := rfl
theorem dn_good {l : Int} (h : l.natAbs ≤ 100000) : goodD (dn l).1 ((dn l).2 : Int) = true := by
  have h1 := dn_abs l
  have h2 := dn_K l
  simp only [goodD, Bool.and_eq_true, decide_eq_true_eq, Bool.or_eq_true, beq_iff_eq, bne_iff_ne]
  refine ⟨⟨⟨by omega, by omega⟩, by omega, by omega⟩, ?_⟩
  rcases dn_odd l with h | h
  · left; omega
  · right
    intro hc
    have := Int.emod_eq_zero_of_dvd (Int.dvd_of_tmod_eq_zero hc)
    omega
theorem cmp_dn (a b : Int) : cmpD (dn a).1 ((dn a).2 : Int) (dn b).1 ((dn b).2 : Int) = sgn3 (a - b) := by
  have ha := dn_val a
  have hb := dn_val b
  have ka := dn_K a
  have kb := dn_K b
  unfold cmpD
  rw [Int.toNat_natCast, Int.toNat_natCast]
  have hc : (0 : Int) < 2 ^ (5 - (dn a).2) * 2 ^ (5 - (dn b).2) := Int.mul_pos (by have := pow_pos2 (5 - (dn a).2); omega) (by have := pow_pos2 (5 - (dn b).2); omega)
  have h32 : (0 : Int) < 32 := by decide
  rw [← sgn3_mul hc, ← sgn3_mul h32 (a - b)]
  congr 1
  have s1 : (2 : Int) ^ (dn a).2 * 2 ^ (5 - (dn a).2) = 32 := by rw [← Int.pow_add, show (dn a).2 + (5 - (dn a).2) = 5 by omega]; rfl
  have s2 : (2 : Int) ^ (dn b).2 * 2 ^ (5 - (dn b).2) = 32 := by rw [← Int.pow_add, show (dn b).2 + (5 - (dn b).2) = 5 by omega]; rfl
  rw [Int.mul_sub, Int.mul_sub]
  have e1 : (2 : Int) ^ (5 - (dn a).2) * 2 ^ (5 - (dn b).2) * ((dn a).1 * 2 ^ (dn b).2) = 32 * a := by
    conv => rhs; rw [ha, ← s2]
    simp only [Int.mul_assoc, Int.mul_comm, Int.mul_left_comm]
  have e2 : (2 : Int) ^ (5 - (dn a).2) * 2 ^ (5 - (dn b).2) * ((dn b).1 * 2 ^ (dn a).2) = 32 * b := by
    conv => rhs; rw [hb, ← s1]
    simp only [Int.mul_assoc, Int.mul_comm, Int.mul_left_comm]
  rw [e1, e2]
theorem sgn3_pos {a b : Int} : decide (sgn3 (a - b) > 0) = decide (a > b) := by
  rcases sgn3_cases (a - b) with h | h | h <;> rw [h.2] <;> simp <;> omega
theorem sgn3_neg {a b : Int} : decide (sgn3 (a - b) < 0) = decide (a < b) := by
  rcases sgn3_cases (a - b) with h | h | h <;> rw [h.2] <;> simp <;> omega
theorem greater_ok (lim : Nat) (a b : Int) (H : AHeap) (hl : lim ≤ H.next) (h1 : a.natAbs ≤ 100000) (h2 : b.natAbs ≤ 100000) :
    ACalls Tryz.prog lim n_impl_greater [dV (dn a), dV (dn b)] H fun v H' => v = dV (dn (if b > a then b else a)) ∧ Ext H H' := by
  refine is_impl_greater.go rfl ?_
  have hc : cmpD (dn b).1 ((dn b).2 : Int) (dn a).1 ((dn a).2 : Int) = sgn3 (b - a) := cmp_dn b a
  have g1 := dn_good h1
  have g2 := dn_good h2
  have sp : decide (sgn3 (b - a) > 0) = decide (b > a) := sgn3_pos
  have res : dV (dn (if b > a then b else a)) = if b > a then dV (dn b) else dV (dn a) := by split <;> rfl
  rw [res]
  simp only [dv_eq]
  generalize dn a = da at *
  generalize dn b = db at *
  unfold c_impl_greater
  refine s_reg ?_
  simp only [o_eff, o_nil, Opd.ev, EOp.ev, env0, gu, gv, setD, List.set, Option.map_some, Option.some.injEq, exists_eq_left', boxH, cellsV]
  have hx1 := Ext.alloc H [vi da.1, vi da.2]
  have hb1 := alloc_new H [vi da.1, vi da.2]
  have hl1 : (H.alloc [vi da.1, vi da.2]).next = H.next + 1 := rfl
  generalize H.alloc [vi da.1, vi da.2] = H1 at hx1 hb1 hl1 ⊢
  have hx2 := Ext.alloc H1 [vi db.1, vi db.2]
  have hb2 := alloc_new H1 [vi db.1, vi db.2]
  have hl2 : (H1.alloc [vi db.1, vi db.2]).next = H1.next + 1 := rfl
  replace hb1 := (hx2.blk _ (by omega)).trans hb1
  generalize H1.alloc [vi db.1, vi db.2] = H2 at hx2 hb1 hb2 hl2 ⊢
  have hx3 := Ext.alloc H2 [vi 0, vi 0]
  have hb3 := alloc_new H2 [vi 0, vi 0]
  have hl3 : (H2.alloc [vi 0, vi 0]).next = H2.next + 1 := rfl
  replace hb1 := (hx3.blk _ (by omega)).trans hb1
  replace hb2 := (hx3.blk _ (by omega)).trans hb2
  generalize H2.alloc [vi 0, vi 0] = H3 at hx3 hb1 hb2 hb3 hl3 ⊢
  have hx := (hx1.trans hx2).trans hx3
  refine s_test ?_
  simp only [o_pure, o_callF, POp.ev, Opd.ev, gv, setD, List.map, Option.some.injEq, exists_eq_left', load2 hb1, load2 hb2]
  refine (compareD_ok lim _ _ _ _ H3 (by omega) g2 g1).mono ?_
  rintro _ H4 ⟨rfl, hx4⟩
  replace hb1 := (hx4.blk _ (by omega)).trans hb1
  replace hb2 := (hx4.blk _ (by omega)).trans hb2
  replace hb3 := (hx4.blk _ (by omega)).trans hb3
  rw [hc]
  simp only [o_cont, o_pure, o_nil, POp.ev, Opd.ev, gv, setD, Option.some.injEq, exists_eq_left', binV, ne_eq, not_true_eq_false, if_false, sp]
  refine Test.split (fun hh => ?_) (fun hh => ?_)
  · refine s_reg ?_
    simp only [o_pure, o_eff, o_nil, POp.ev, Opd.ev, EOp.ev, gv, setD, Option.some.injEq, exists_eq_left', load2 hb2, store2 (lim := lim) (show lim ≤ H2.next by omega) hb3]
    refine s_ret1 ?_
    simp +decide only [p_seq_ret, p_fin_ret, resV, resOne, gv, Option.some.injEq, exists_eq_left', load2 (put_same _ _ _)]
    exact ⟨by rw [if_pos (of_decide_eq_true hh)], Chg.ext (hx.trans hx4) (Chg.put _ _ _) (by omega)⟩
  · refine s_skip1 ?_
    simp +decide only [p_seq_normal]
    refine s_reg ?_
    simp only [o_pure, o_eff, o_nil, POp.ev, Opd.ev, EOp.ev, gv, setD, Option.some.injEq, exists_eq_left', load2 hb1, store2 (lim := lim) (show lim ≤ H2.next by omega) hb3]
    refine s_ret1 ?_
    simp +decide only [p_fin_ret, resV, resOne, gv, Option.some.injEq, exists_eq_left', load2 (put_same _ _ _)]
    exact ⟨by rw [if_neg (of_decide_eq_false hh)], Chg.ext (hx.trans hx4) (Chg.put _ _ _) (by omega)⟩
theorem lesser_ok (lim : Nat) (a b : Int) (H : AHeap) (hl : lim ≤ H.next) (h1 : a.natAbs ≤ 100000) (h2 : b.natAbs ≤ 100000) :
    ACalls Tryz.prog lim n_impl_lesser [dV (dn a), dV (dn b)] H fun v H' => v = dV (dn (if b < a then b else a)) ∧ Ext H H' := by
  refine is_impl_lesser.go rfl ?_
  have hc : cmpD (dn b).1 ((dn b).2 : Int) (dn a).1 ((dn a).2 : Int) = sgn3 (b - a) := cmp_dn b a
  have g1 := dn_good h1
  have g2 := dn_good h2
  have sp : decide (sgn3 (b - a) < 0) = decide (b < a) := sgn3_neg
  have res : dV (dn (if b < a then b else a)) = if b < a then dV (dn b) else dV (dn a) := by split <;> rfl
  rw [res]
  simp only [dv_eq]
  generalize dn a = da at *
  generalize dn b = db at *
  unfold c_impl_lesser
  refine s_reg ?_
  simp only [o_eff, o_nil, Opd.ev, EOp.ev, env0, gu, gv, setD, List.set, Option.map_some, Option.some.injEq, exists_eq_left', boxH, cellsV]
  have hx1 := Ext.alloc H [vi da.1, vi da.2]
  have hb1 := alloc_new H [vi da.1, vi da.2]
  have hl1 : (H.alloc [vi da.1, vi da.2]).next = H.next + 1 := rfl
  generalize H.alloc [vi da.1, vi da.2] = H1 at hx1 hb1 hl1 ⊢
  have hx2 := Ext.alloc H1 [vi db.1, vi db.2]
  have hb2 := alloc_new H1 [vi db.1, vi db.2]
  have hl2 : (H1.alloc [vi db.1, vi db.2]).next = H1.next + 1 := rfl
  replace hb1 := (hx2.blk _ (by omega)).trans hb1
  generalize H1.alloc [vi db.1, vi db.2] = H2 at hx2 hb1 hb2 hl2 ⊢
  have hx3 := Ext.alloc H2 [vi 0, vi 0]
  have hb3 := alloc_new H2 [vi 0, vi 0]
  have hl3 : (H2.alloc [vi 0, vi 0]).next = H2.next + 1 := rfl
  replace hb1 := (hx3.blk _ (by omega)).trans hb1
  replace hb2 := (hx3.blk _ (by omega)).trans hb2
  generalize H2.alloc [vi 0, vi 0] = H3 at hx3 hb1 hb2 hb3 hl3 ⊢
  have hx := (hx1.trans hx2).trans hx3
  refine s_test ?_
  simp only [o_pure, o_callF, POp.ev, Opd.ev, gv, setD, List.map, Option.some.injEq, exists_eq_left', load2 hb1, load2 hb2]
  refine (compareD_ok lim _ _ _ _ H3 (by omega) g2 g1).mono ?_
  rintro _ H4 ⟨rfl, hx4⟩
  replace hb1 := (hx4.blk _ (by omega)).trans hb1
  replace hb2 := (hx4.blk _ (by omega)).trans hb2
  replace hb3 := (hx4.blk _ (by omega)).trans hb3
  rw [hc]
  simp only [o_cont, o_pure, o_nil, POp.ev, Opd.ev, gv, setD, Option.some.injEq, exists_eq_left', binV, ne_eq, not_true_eq_false, if_false, sp]
  refine Test.split (fun hh => ?_) (fun hh => ?_)
  · refine s_reg ?_
    simp only [o_pure, o_eff, o_nil, POp.ev, Opd.ev, EOp.ev, gv, setD, Option.some.injEq, exists_eq_left', load2 hb2, store2 (lim := lim) (show lim ≤ H2.next by omega) hb3]
    refine s_ret1 ?_
    simp +decide only [p_seq_ret, p_fin_ret, resV, resOne, gv, Option.some.injEq, exists_eq_left', load2 (put_same _ _ _)]
    exact ⟨by rw [if_pos (of_decide_eq_true hh)], Chg.ext (hx.trans hx4) (Chg.put _ _ _) (by omega)⟩
  · refine s_skip1 ?_
    simp +decide only [p_seq_normal]
    refine s_reg ?_
    simp only [o_pure, o_eff, o_nil, POp.ev, Opd.ev, EOp.ev, gv, setD, Option.some.injEq, exists_eq_left', load2 hb1, store2 (lim := lim) (show lim ≤ H2.next by omega) hb3]
    refine s_ret1 ?_
    simp +decide only [p_fin_ret, resV, resOne, gv, Option.some.injEq, exists_eq_left', load2 (put_same _ _ _)]
    exact ⟨by rw [if_neg (of_decide_eq_false hh)], Chg.ext (hx.trans hx4) (Chg.put _ _ _) (by omega)⟩
theorem sumOf_ok (lim : Nat) (l m : Int) (H : AHeap) (hl : lim ≤ H.next) (h1 : l.natAbs ≤ 1000) (h2 : m.natAbs ≤ 1000) : ACalls Tryz.prog lim n_impl_sumOf [dV (dn l), dV (dn m)] H fun v H' => v = .tuple #[dV (dn (l + m)), .bool true] ∧ Ext H H' := by
  have a1 := dn_abs l
  have a2 := dn_abs m
  have k1 := dn_K l
  have k2 := dn_K m
  have q1 := @dn_scale l
  have q2 := @dn_scale m
  simp only [dv_eq (dn l), dv_eq (dn m)]
  generalize hda : dn l = da at *
  generalize hdb : dn m = db at *
  refine is_impl_sumOf.go rfl ?_
  unfold c_impl_sumOf
  refine s_reg ?_
  simp only [o_pure, o_eff, o_nil, POp.ev, Opd.ev, EOp.ev, env0, gu, gv, setD, List.set, Option.map_some, Option.some.injEq, exists_eq_left', boxH, cellsV]
  have hx1 := Ext.alloc H [vi da.1, vi da.2]
  have hb1 := alloc_new H [vi da.1, vi da.2]
  have hl1 : (H.alloc [vi da.1, vi da.2]).next = H.next + 1 := rfl
  generalize H.alloc [vi da.1, vi da.2] = H1 at hx1 hb1 hl1 ⊢
  have hx2 := Ext.alloc H1 [vi db.1, vi db.2]
  have hb2 := alloc_new H1 [vi db.1, vi db.2]
  have hl2 : (H1.alloc [vi db.1, vi db.2]).next = H1.next + 1 := rfl
  replace hb1 := (hx2.blk H.next (by omega)).trans hb1
  generalize H1.alloc [vi db.1, vi db.2] = H2 at hx2 hb1 hb2 hl2 ⊢
  have hx3 := Ext.alloc H2 [.int .i64 0, .int .i64 0]
  have hb3 := alloc_new H2 [.int .i64 0, .int .i64 0]
  have hl3 : (H2.alloc [.int .i64 0, .int .i64 0]).next = H2.next + 1 := rfl
  replace hb1 := (hx3.blk H.next (by omega)).trans hb1
  replace hb2 := (hx3.blk H1.next (by omega)).trans hb2
  generalize H2.alloc [.int .i64 0, .int .i64 0] = H3 at hx3 hb1 hb2 hb3 hl3 ⊢
  have x03 := (hx1.trans hx2).trans hx3
  obtain ⟨d, hd, d1, d2, d5⟩ : ∃ d : Nat, (if (db.2 : Int) > (da.2 : Int) then (db.2 : Int) else (da.2 : Int)) = (d : Int) ∧ da.2 ≤ d ∧ db.2 ≤ d ∧ d ≤ 5 := by
    refine ⟨max da.2 db.2, ?_, by omega, by omega, by omega⟩
    split <;> omega
  refine s_reg ?_
  simp only [o_pure, o_nil, POp.ev, Opd.ev, gv, setD, List.set, Option.some.injEq, exists_eq_left', load1V, max2V, fadV, List.getElem?_cons_zero, List.getElem?_cons_succ, Nat.zero_add, cell_blk hb1, cell_blk hb2, hd]
  have w1 : IntKind.i64.wrap ((d : Int) - (da.2 : Int)) = ((d - da.2 : Nat) : Int) := by rw [show (d : Int) - da.2 = ((d - da.2 : Nat) : Int) by omega]; exact wr_nat (by omega)
  have w2 : IntKind.i64.wrap ((d : Int) - (db.2 : Int)) = ((d - db.2 : Nat) : Int) := by rw [show (d : Int) - db.2 = ((d - db.2 : Nat) : Int) by omega]; exact wr_nat (by omega)
  refine s_reg ?_
  simp only [o_pure, o_callN, POp.ev, Opd.ev, gv, setD, List.map, Option.some.injEq, exists_eq_left', binV, load1V, fadV, ne_eq, not_true_eq_false, if_false, List.getElem?_cons_zero, List.getElem?_cons_succ, Nat.zero_add, cell_blk hb1, cell_blk hb2, w1, w2]
  refine (wideOf_ok _ da.1 H3 (Nat.le_refl _) (by omega)).use ?_
  rintro _ H4 ⟨rfl, hx4⟩ _
  simp only [o_cont, o_callN, Opd.ev, gv, setD, List.map]
  refine (shift_up _ _ da.1.natAbs (d - da.2) H4 (Nat.le_refl _) (by omega) (by omega)).use ?_
  rintro _ H5 ⟨rfl, hx5⟩ _
  simp only [o_cont, o_callN, Opd.ev, gv, setD, List.map]
  refine (wideOf_ok _ db.1 H5 (Nat.le_refl _) (by omega)).use ?_
  rintro _ H6 ⟨rfl, hx6⟩ _
  have hn6 := ((hx4.trans hx5).trans hx6).next
  simp only [o_cont, o_callF, Opd.ev, gv, setD, List.map]
  refine (shift_up lim _ db.1.natAbs (d - db.2) H6 (by omega) (by omega) (by omega)).mono ?_
  rintro _ H7 ⟨rfl, hx7⟩
  have hn7 := hx7.next
  simp only [o_cont, o_callF, Opd.ev, gv, setD, List.map]
  refine sum_parts lim da.1 db.1 (d - da.2) (d - db.2) H7 _ (by omega) (by omega) (by omega) (by omega) (by omega) ?_ _ _ rfl rfl
  rintro _ H8 ⟨⟨sg, x, rfl, hsum, hx32⟩, hx8⟩
  have hn8 := hx8.next
  simp only [o_cont, o_callF, Opd.ev, gv, setD, List.map]
  refine (fit_ok lim sg x d H8 (by omega) (by omega) (by omega)).mono ?_
  rintro _ H9 ⟨rfl, hx9⟩
  have x09 := x03.trans ((((hx4.trans hx5).trans hx6).trans hx7).trans (hx8.trans hx9))
  replace hb3 := (((((hx4.trans hx5).trans hx6).trans hx7).trans (hx8.trans hx9)).blk H2.next (by omega)).trans hb3
  have e : dn (l + m) = dnorm (bsg sg x) (d) := by
    refine dnorm_up (by omega) ?_
    have e1 := q1 d1 d5
    have e2 := q2 d2 d5
    rw [hsum, Int.add_mul, ← e1, ← e2]
  rw [e]
  generalize dnorm (bsg sg x) (d) = r
  simp only [o_cont, o_pure, o_eff, o_nil, POp.ev, Opd.ev, EOp.ev, gv, setD, List.set, Option.some.injEq, exists_eq_left', extV, List.getElem?_toArray, List.getElem?_cons_zero, List.getElem?_cons_succ, dv_eq, store2 (lim := lim) (show lim ≤ H2.next by omega) hb3]
  refine s_ret1 ?_
  simp +decide only [p_fin_ret, resV, resOne, resL, gv, Option.some.injEq, exists_eq_left', Option.bind_some, Option.map_some, resL, load2 (put_same _ _ _)]
  exact ⟨trivial, Chg.ext x09 (Chg.put _ _ _) (by omega)⟩
theorem middleOf_ok (lim : Nat) (l m : Int) (H : AHeap) (hl : lim ≤ H.next) (h1 : l.natAbs ≤ 1000) (h2 : m.natAbs ≤ 1000) : ACalls Tryz.prog lim n_impl_middleOf [dV (dn l), dV (dn m)] H fun v H' => v = .tuple #[dV (dnorm (l + m) 6), .bool true] ∧ Ext H H' := by
  have a1 := dn_abs l
  have a2 := dn_abs m
  have k1 := dn_K l
  have k2 := dn_K m
  have q1 := @dn_scale l
  have q2 := @dn_scale m
  simp only [dv_eq (dn l), dv_eq (dn m)]
  generalize hda : dn l = da at *
  generalize hdb : dn m = db at *
  refine is_impl_middleOf.go rfl ?_
  unfold c_impl_middleOf
  refine s_reg ?_
  simp only [o_pure, o_eff, o_nil, POp.ev, Opd.ev, EOp.ev, env0, gu, gv, setD, List.set, Option.map_some, Option.some.injEq, exists_eq_left', boxH, cellsV]
  have hx1 := Ext.alloc H [vi da.1, vi da.2]
  have hb1 := alloc_new H [vi da.1, vi da.2]
  have hl1 : (H.alloc [vi da.1, vi da.2]).next = H.next + 1 := rfl
  generalize H.alloc [vi da.1, vi da.2] = H1 at hx1 hb1 hl1 ⊢
  have hx2 := Ext.alloc H1 [vi db.1, vi db.2]
  have hb2 := alloc_new H1 [vi db.1, vi db.2]
  have hl2 : (H1.alloc [vi db.1, vi db.2]).next = H1.next + 1 := rfl
  replace hb1 := (hx2.blk H.next (by omega)).trans hb1
  generalize H1.alloc [vi db.1, vi db.2] = H2 at hx2 hb1 hb2 hl2 ⊢
  have hx3 := Ext.alloc H2 [.int .i64 0, .int .i64 0]
  have hb3 := alloc_new H2 [.int .i64 0, .int .i64 0]
  have hl3 : (H2.alloc [.int .i64 0, .int .i64 0]).next = H2.next + 1 := rfl
  replace hb1 := (hx3.blk H.next (by omega)).trans hb1
  replace hb2 := (hx3.blk H1.next (by omega)).trans hb2
  generalize H2.alloc [.int .i64 0, .int .i64 0] = H3 at hx3 hb1 hb2 hb3 hl3 ⊢
  have x03 := (hx1.trans hx2).trans hx3
  obtain ⟨d, hd, d1, d2, d5⟩ : ∃ d : Nat, (if (db.2 : Int) > (da.2 : Int) then (db.2 : Int) else (da.2 : Int)) = (d : Int) ∧ da.2 ≤ d ∧ db.2 ≤ d ∧ d ≤ 5 := by
    refine ⟨max da.2 db.2, ?_, by omega, by omega, by omega⟩
    split <;> omega
  refine s_reg ?_
  simp only [o_pure, o_nil, POp.ev, Opd.ev, gv, setD, List.set, Option.some.injEq, exists_eq_left', load1V, max2V, fadV, List.getElem?_cons_zero, List.getElem?_cons_succ, Nat.zero_add, cell_blk hb1, cell_blk hb2, hd]
  have w1 : IntKind.i64.wrap ((d : Int) - (da.2 : Int)) = ((d - da.2 : Nat) : Int) := by rw [show (d : Int) - da.2 = ((d - da.2 : Nat) : Int) by omega]; exact wr_nat (by omega)
  have w2 : IntKind.i64.wrap ((d : Int) - (db.2 : Int)) = ((d - db.2 : Nat) : Int) := by rw [show (d : Int) - db.2 = ((d - db.2 : Nat) : Int) by omega]; exact wr_nat (by omega)
  refine s_reg ?_
  simp only [o_pure, o_callN, POp.ev, Opd.ev, gv, setD, List.map, Option.some.injEq, exists_eq_left', binV, load1V, fadV, ne_eq, not_true_eq_false, if_false, List.getElem?_cons_zero, List.getElem?_cons_succ, Nat.zero_add, cell_blk hb1, cell_blk hb2, w1, w2, add1 (i := d) (by omega)]
  refine (wideOf_ok _ da.1 H3 (Nat.le_refl _) (by omega)).use ?_
  rintro _ H4 ⟨rfl, hx4⟩ _
  simp only [o_cont, o_callN, Opd.ev, gv, setD, List.map]
  refine (shift_up _ _ da.1.natAbs (d - da.2) H4 (Nat.le_refl _) (by omega) (by omega)).use ?_
  rintro _ H5 ⟨rfl, hx5⟩ _
  simp only [o_cont, o_callN, Opd.ev, gv, setD, List.map]
  refine (wideOf_ok _ db.1 H5 (Nat.le_refl _) (by omega)).use ?_
  rintro _ H6 ⟨rfl, hx6⟩ _
  have hn6 := ((hx4.trans hx5).trans hx6).next
  simp only [o_cont, o_callF, Opd.ev, gv, setD, List.map]
  refine (shift_up lim _ db.1.natAbs (d - db.2) H6 (by omega) (by omega) (by omega)).mono ?_
  rintro _ H7 ⟨rfl, hx7⟩
  have hn7 := hx7.next
  simp only [o_cont, o_callF, Opd.ev, gv, setD, List.map]
  refine sum_parts lim da.1 db.1 (d - da.2) (d - db.2) H7 _ (by omega) (by omega) (by omega) (by omega) (by omega) ?_ _ _ rfl rfl
  rintro _ H8 ⟨⟨sg, x, rfl, hsum, hx32⟩, hx8⟩
  have hn8 := hx8.next
  simp only [o_cont, o_callF, Opd.ev, gv, setD, List.map]
  refine (fit_ok lim sg x (d + 1) H8 (by omega) (by omega) (by omega)).mono ?_
  rintro _ H9 ⟨rfl, hx9⟩
  have x09 := x03.trans ((((hx4.trans hx5).trans hx6).trans hx7).trans (hx8.trans hx9))
  replace hb3 := (((((hx4.trans hx5).trans hx6).trans hx7).trans (hx8.trans hx9)).blk H2.next (by omega)).trans hb3
  have e : dnorm (l + m) 6 = dnorm (bsg sg x) (d + 1) := by
    refine dnorm_up (by omega) ?_
    have e1 := q1 d1 d5
    have e2 := q2 d2 d5
    rw [hsum, show 6 - (d + 1) = 5 - d by omega, Int.add_mul, ← e1, ← e2]
  rw [e]
  generalize dnorm (bsg sg x) (d + 1) = r
  simp only [o_cont, o_pure, o_eff, o_nil, POp.ev, Opd.ev, EOp.ev, gv, setD, List.set, Option.some.injEq, exists_eq_left', extV, List.getElem?_toArray, List.getElem?_cons_zero, List.getElem?_cons_succ, dv_eq, store2 (lim := lim) (show lim ≤ H2.next by omega) hb3]
  refine s_ret1 ?_
  simp +decide only [p_fin_ret, resV, resOne, resL, gv, Option.some.injEq, exists_eq_left', Option.bind_some, Option.map_some, resL, load2 (put_same _ _ _)]
  exact ⟨trivial, Chg.ext x09 (Chg.put _ _ _) (by omega)⟩
end Go.Proofs.YtldpdjpchcoigaaGreat

/- Long numbers, the program: digits, products, made of a number and a power of 2, signs; no condition beyond stated ranges. -/
namespace Go.Proofs.YtldpdjpchcoigaaGreat
open Go.Ab Ints
set_option linter.unusedSimpArgs false
set_option linter.unusedVariables false

abbrev du (d : Nat) : Value := .int .u32 (d : Int)
def dval : List Nat → Nat
  | [] => 0
  | d :: t => d + 4294967296 * dval t
def dOk (D : List Nat) : Prop := ∀ d ∈ D, d < 4294967296
theorem dval_append : ∀ A B : List Nat, dval (A ++ B) = dval A + 4294967296 ^ A.length * dval B
  | [], B => by simp [dval]
  | a :: A, B => by
    rw [List.cons_append, dval, dval, dval_append A B, List.length_cons, Nat.pow_succ]
    grind
theorem dval_lt : ∀ {A : List Nat}, dOk A → dval A < 4294967296 ^ A.length
  | [], _ => by simp [dval]
  | a :: A, h => by
    have h1 := h a (by simp)
    have h2 := dval_lt (A := A) (fun d hd => h d (by simp [hd]))
    rw [dval, List.length_cons, Nat.pow_succ]
    omega
theorem dval_zeros (n : Nat) : dval (List.replicate n 0) = 0 := by
  induction n with
  | zero => rfl
  | succ n ih => rw [List.replicate_succ, dval, ih]
theorem dval_drop (D : List Nat) (i : Nat) : dval (D.drop i) = D.getD i 0 + 4294967296 * dval (D.drop (i + 1)) := by
  by_cases h : i < D.length
  · rw [List.drop_eq_getElem_cons h, dval]
    simp [h]
  · rw [List.drop_of_length_le (by omega), List.drop_of_length_le (by omega), List.getD_eq_getElem?_getD, List.getElem?_eq_none (by omega)]
    rfl
theorem dval_split (D : List Nat) (i : Nat) : dval D = dval (D.take i) + 4294967296 ^ (min i D.length) * dval (D.drop i) := by
  conv => lhs; rw [← List.take_append_drop i D]
  rw [dval_append, List.length_take]
theorem dOk_take {D : List Nat} (h : dOk D) (i : Nat) : dOk (D.take i) := fun d hd => h d (List.mem_of_mem_take hd)
theorem dOk_get {D : List Nat} (h : dOk D) (i : Nat) : D.getD i 0 < 4294967296 := by
  rw [List.getD_eq_getElem?_getD]
  by_cases hi : i < D.length
  · rw [List.getElem?_eq_getElem hi]; exact h _ (List.getElem_mem hi)
  · rw [List.getElem?_eq_none (by omega)]; decide
theorem dval_any {D : List Nat} : (D.any fun d => d != 0) = decide (dval D ≠ 0) := by
  induction D with
  | nil => rfl
  | cons d t ih =>
    rw [List.any_cons, ih, dval]
    by_cases h : d = 0
    · subst h
      simp
      omega
    · have h1 : (d != 0) = true := by simp [h]
      rw [h1, Bool.true_or]
      symm
      simp only [decide_eq_true_eq, ne_eq]
      omega
/-- digits that are read -/
abbrev SlU (H : AHeap) (w : Value) (D : List Nat) : Prop := Sl H w D.length 1 (D.map du)
abbrev VecU (H : AHeap) (b : Nat) (w : Value) (D : List Nat) : Prop := Vec H b w D.length 1 (D.map du)
theorem SlU.get {H : AHeap} {s : Value} {l : List Nat} (h : SlU H s l) {i : Nat} (hi : i < l.length) : ∃ b o, iadV 1 s (.int .i64 i) = some (.pointer (some ⟨b, o, none⟩)) ∧ b < H.next ∧ H.cell b o = some (du l[i]) := by
  obtain ⟨b, o, h1, h2, h3⟩ := h.cell .i64 (i := i) (by omega) (by omega)
  exact ⟨b, o, h1, h2, h3.trans (by simp [hi])⟩
theorem SlU.ext {H H' : AHeap} {v : Value} {l : List Nat} (h : SlU H v l) (hx : Ext H H') : SlU H' v l := Sl.keep h (Keep.of_ext hx (Nat.le_refl _)) (Nat.le_refl _)
/-- a long number that is read -/
def Lg (H : AHeap) (v : Value) (b : Bool) (D : List Nat) : Prop := ∃ w, v = .agg #[.bool b, w] ∧ SlU H w D ∧ dOk D
theorem Lg.ext {H H' : AHeap} {v : Value} {b : Bool} {D : List Nat} (h : Lg H v b D) (hx : Ext H H') : Lg H' v b D := by
  obtain ⟨w, h1, h2, h3⟩ := h
  exact ⟨w, h1, SlU.ext h2 hx, h3⟩
def lsv (b : Bool) (D : List Nat) : Int := if b then -(dval D : Int) else dval D
theorem bsliceU (H : AHeap) (x : Int) : bsliceH H 1 [.int .u32 0] [(0, 1, .int .u32 x)] = some (.slice (some ⟨H.next, 0, some 0⟩) 1 1, H.alloc [.int .u32 x]) := by
  simp [bsliceH, fillV, cellsV]
theorem VecU.push {lim : Nat} {H : AHeap} {b : Nat} {v : Value} {l : List Nat} (h : VecU H b v l) (x : Nat) (hl : lim ≤ b) (hn : l.length ≤ 1000000) :
    ∃ v' H' b', appendH lim (H.alloc [du x]) 1 4 v (.slice (some ⟨H.next, 0, some 0⟩) 1 1) = some (v', H') ∧ VecU H' b' v' (l ++ [x]) ∧ (b' = b ∨ H.next ≤ b') ∧ b' < H'.next ∧ Chg b H H' := by
  have hx : Vec (H.alloc [du x]) H.next (.slice (some ⟨H.next, 0, some 0⟩) 1 1) 1 1 [du x] := Vec.lit rfl
  obtain ⟨v', H', b', h1, h2, h3, h4, h5⟩ := (Vec.ext h (Ext.alloc H [du x])).append (lim := lim) hl hx.sl (by decide) (bytes := 4) (by omega)
  refine ⟨v', H', b', h1, ?_, ?_, (h2.blk (by omega)).elim fun _ h => h.2, (Chg.of_ext (Ext.alloc H [du x])).trans h4⟩
  · show Vec H' b' v' (l ++ [x]).length 1 ((l ++ [x]).map du)
    rw [List.length_append, List.map_append]
    exact h2
  · rcases h3 with rfl | ⟨rfl, _⟩
    · exact .inl rfl
    · exact .inr (Nat.le_succ _)
theorem u32_wrap (n : Int) : IntKind.u32.wrap n = n % 4294967296 := by
  simp [IntKind.wrap, IntKind.bits, IntKind.signed]
theorem u32_nat (n : Nat) : IntKind.u32.wrap (n : Int) = ((n % 4294967296 : Nat) : Int) := by rw [u32_wrap]; rfl
theorem u64_nat {n : Nat} (h : n < 18446744073709551616) : IntKind.u64.wrap (n : Int) = (n : Int) := u64_id (by omega) (by omega)
theorem m32_64 : min (32 : Int).toNat IntKind.u64.bits = 32 := by decide
theorem n32 : ¬ (32 : Int) < 0 := by decide
theorem shr32 (x : Nat) : ((x : Int).fdiv (2 ^ 32)) = ((x / 4294967296 : Nat) : Int) := shr_nat x 32
theorem digit_ok (lim : Nat) (v : Value) (b : Bool) (D : List Nat) (i : Nat) (H : AHeap) (h : Lg H v b D) (hn : D.length ≤ 1000000) :
    ACalls Tryz.prog lim n_impl_long_digit [v, .int .i64 (i : Int)] H fun u H' => u = du (D.getD i 0) ∧ Ext H H' := by
  obtain ⟨w, rfl, hw, _⟩ := h
  refine is_impl_long_digit.go rfl ?_
  unfold c_impl_long_digit
  refine s_reg ?_
  simp only [o_pure, o_eff, o_nil, POp.ev, Opd.ev, EOp.ev, env0, gu, gv, setD, List.set, Option.map_some, Option.some.injEq, exists_eq_left', boxH, cellsV]
  have hx := Ext.alloc H [.bool b, w]
  have hb := alloc_new H [.bool b, w]
  generalize H.alloc [.bool b, w] = H1 at hx hb ⊢
  have hw1 := SlU.ext hw hx
  refine s_test ?_
  simp only [o_pure, o_nil, POp.ev, Opd.ev, gv, setD, Option.some.injEq, exists_eq_left', binV, load1V, fadV, ne_eq, not_true_eq_false, if_false, List.getElem?_cons_zero, List.getElem?_cons_succ, Nat.zero_add, cell_blk hb, Sl.lenV hw1]
  refine Test.split (fun hh => ?_) (fun hh => ?_)
  · have hi : i < D.length := by have := of_decide_eq_true hh; omega
    obtain ⟨bb, o, g1, g2, g3⟩ := SlU.get hw1 hi
    refine s_reg ?_
    simp only [o_pure, o_nil, POp.ev, Opd.ev, gv, setD, List.set, Option.some.injEq, exists_eq_left', load1V, fadV, List.getElem?_cons_zero, List.getElem?_cons_succ, Nat.zero_add, cell_blk hb, g1, g3]
    refine s_ret1 ?_
    simp +decide only [p_seq_ret, p_fin_ret, resV, resOne, gv, Option.some.injEq, exists_eq_left']
    exact ⟨by simp [hi], hx⟩
  · have hi : ¬ i < D.length := by have := of_decide_eq_false hh; omega
    refine s_skip1 ?_
    simp +decide only [p_seq_normal]
    refine s_reg ?_
    simp only [o_pure, o_nil, POp.ev, Opd.ev, setD, List.set, Option.some.injEq, exists_eq_left']
    refine s_ret1 ?_
    simp +decide only [p_fin_ret, resV, resOne, gv, Option.some.injEq, exists_eq_left']
    refine ⟨?_, hx⟩
    rw [List.getD_eq_getElem?_getD, List.getElem?_eq_none (by omega)]
    rfl
theorem fillL (b : Bool) : fillV [.bool false, .slice none 0 0] [(0, 1, .bool b)] = some [.bool b, .slice none 0 0] := by simp [fillV, cellsV]
theorem Sl.cellsV1 {H : AHeap} {w : Value} {n : Nat} {cells : List Value} (h : Sl H w n 1 cells) : cellsV w = some [w] := by
  obtain ⟨_, a, cap, h1, _⟩ := h
  rw [h1]; rfl
theorem put2s {lim b : Nat} {H : AHeap} {p q w : Value} (hw : cellsV w = some [w]) (hl : lim ≤ b) (h : H.blk b = some [p, q]) : storeH lim H 1 (.pointer (some ⟨b, 1, none⟩)) w = some (undef, H.put b [p, w]) := by
  rw [store_cell (o := 1) hw hl h (by simp)]; rfl
theorem times_ok (lim : Nat) (v : Value) (b : Bool) (D : List Nat) (n : Int) (H : AHeap) (hl : lim ≤ H.next) (h : Lg H v b D) (hn : D.length ≤ 100000) (hN : n.natAbs < 4294967296) :
    ACalls Tryz.prog lim n_impl_long_times [v, .int .i64 n] H fun u H' => (∃ (s : Bool) (E : List Nat), Lg H' u s E ∧ lsv s E = lsv b D * n ∧ E.length = D.length + 1) ∧ Ext H H' := by
  obtain ⟨w, rfl, hw, hok⟩ := h
  refine is_impl_long_times.go rfl ?_
  unfold c_impl_long_times
  refine s_reg ?_
  simp only [o_eff, o_nil, Opd.ev, EOp.ev, env0, gu, gv, setD, List.set, Option.map_some, Option.some.injEq, exists_eq_left', boxH, cellsV]
  have hx1 := Ext.alloc H [.bool b, w]
  have hb1 := alloc_new H [.bool b, w]
  have hl1 : (H.alloc [.bool b, w]).next = H.next + 1 := rfl
  generalize H.alloc [.bool b, w] = H1 at hx1 hb1 hl1 ⊢
  have hx2 := Ext.alloc H1 [.bool false, .slice none 0 0]
  have hb2 := alloc_new H1 [.bool false, .slice none 0 0]
  have hl2 : (H1.alloc [.bool false, .slice none 0 0]).next = H1.next + 1 := rfl
  replace hb1 := (hx2.blk _ (by omega)).trans hb1
  generalize H1.alloc [.bool false, .slice none 0 0] = H2 at hx2 hb1 hb2 hl2 ⊢
  refine s_reg ?_
  simp only [o_pure, o_eff, o_nil, POp.ev, Opd.ev, EOp.ev, gv, setD, List.set, List.map, Option.map_some, Option.some.injEq, exists_eq_left', binV, load1V, boolEq, fadV, ne_eq, not_true_eq_false, if_false, if_true, List.getElem?_cons_zero, Nat.zero_add, cell_blk hb1, fillL, store2_new (lim := lim) (H := H2) (show lim ≤ H2.next by omega)]
  generalize hsg : (!(b == decide (n < 0))) = sg
  have hx3 := Ext.alloc H2 [.bool sg, .slice none 0 0]
  have hb4 := alloc_new H2 [.bool sg, .slice none 0 0]
  have hl3 : (H2.alloc [.bool sg, .slice none 0 0]).next = H2.next + 1 := rfl
  replace hb1 := (hx3.blk _ (by omega)).trans hb1
  replace hb2 := (hx3.blk _ (by omega)).trans hb2
  generalize H2.alloc [.bool sg, .slice none 0 0] = H3 at hx3 hb1 hb2 hb4 hl3 ⊢
  have hx := (hx1.trans hx2).trans hx3
  generalize hq3 : H1.next = q3 at *
  generalize hq4 : H2.next = q4 at *
  generalize hq2 : H.next = q2 at *
  refine s_reg ?_
  simp only [o_pure, o_nil, POp.ev, Opd.ev, setD, List.set, Option.some.injEq, exists_eq_left']
  have hw3 := SlU.ext hw hx
  refine s_assoc (s_reg ?_)
  simp only [o_pure, o_nil, POp.ev, Opd.ev, gv, setD, List.set, Option.some.injEq, exists_eq_left', load1V, fadV, List.getElem?_cons_zero, List.getElem?_cons_succ, Nat.zero_add, cell_blk hb1, Sl.lenV hw3]
  refine s_block ?_
  refine s_loop1 (fun k e' H' => ∃ (i c bo : Nat) (o x6 : Value) (E : List Nat), i + k = D.length ∧ H'.blk q4 = some [.bool sg, o] ∧ VecU H' bo o E ∧ q4 < bo ∧ E.length = i ∧ dOk E ∧ c < 4294967296 ∧ dval E + 4294967296 ^ i * c = dval (D.take i) * n.natAbs ∧
    H'.blk q3 = some [.bool false, .slice none 0 0] ∧ q4 < H'.next ∧ Ext H H' ∧
    e' = [.agg #[.bool b, w], .int .i64 n, .pointer (some ⟨q2, 0, none⟩), .pointer (some ⟨q3, 0, none⟩), .pointer (some ⟨q4, 0, none⟩), .int .u64 (c : Int), x6, w, .int .i64 D.length, .int .i64 i]) D.length
    ⟨0, 0, q4 + 1, _, _, [], by omega, hb4, Vec.nil _ _ _, by omega, rfl, (by intro d hd; cases hd), by decide, by simp [dval], hb2, by omega, hx, rfl⟩ ?_
  clear hb1 hb2 hb4 hw3 hx hx1 hx2 hx3
  rintro k e' G ⟨i, c, bo, o, x6, E, hik, hb4, hv, hq, hEl, hE, hc, hval, hb3, hqn, hx, rfl⟩
  have hn0 := hx.next
  -- one digit put behind
  have step : ∀ (x : Nat), ∃ o' G' bo', appendH lim (G.alloc [du x]) 1 4 o (.slice (some ⟨G.next, 0, some 0⟩) 1 1) = some (o', G') ∧ VecU G' bo' o' (E ++ [x]) ∧ q4 < bo' ∧ G'.blk q4 = some [.bool sg, o] ∧ G'.blk q3 = some [.bool false, .slice none 0 0] ∧ q4 < G'.next ∧ Ext H G' ∧ cellsV o' = some [o'] := by
    intro x
    obtain ⟨o', G', bo', g1, g2, g3, g4, g5⟩ := VecU.push (lim := lim) hv x (by omega) (by omega)
    have := g5.next
    exact ⟨o', G', bo', g1, g2, by rcases g3 with rfl | g3 <;> omega, (g5.blk _ (by omega) (by omega)).trans hb4, (g5.blk _ (by omega) (by omega)).trans hb3, by omega, Chg.ext hx g5 (by omega), Sl.cellsV1 g2.sl⟩
  refine s_test ?_
  simp only [o_pure, o_nil, POp.ev, Opd.ev, gv, setD, Option.some.injEq, exists_eq_left', binV, ne_eq, not_true_eq_false, if_false]
  refine Test.split (fun hlt => ?_) (fun hlt => ?_)
  · have hlt' : i < D.length := by have := of_decide_eq_true hlt; omega
    obtain ⟨bb, oo, g1, g2, g3⟩ := SlU.get (SlU.ext hw hx) hlt'
    have hd := hok _ (List.getElem_mem hlt')
    generalize hD : D[i] = d at hd g3
    have hmul : d * n.natAbs ≤ 4294967295 * 4294967295 := Nat.mul_le_mul (by omega) (by omega)
    have w1 : IntKind.u64.wrap (d : Int) = (d : Int) := u64_nat (by omega)
    have w2 : IntKind.u64.wrap ((d : Int) * (n.natAbs : Int)) = ((d * n.natAbs : Nat) : Int) := by rw [← Int.natCast_mul]; exact u64_nat (by omega)
    have w3 : IntKind.u64.wrap ((c : Int) + ((d * n.natAbs : Nat) : Int)) = ((c + d * n.natAbs : Nat) : Int) := by rw [← Int.natCast_add]; exact u64_nat (by omega)
    generalize hS : c + d * n.natAbs = S at *
    obtain ⟨o', G', bo', a1, a2, a3, a4, a5, a6, a7, a8⟩ := step (S % 4294967296)
    refine s_skip1 ?_
    simp +decide only [p_seq_normal]
    refine s_block ?_
    refine s_reg ?_
    simp only [o_pure, o_nil, POp.ev, Opd.ev, gv, setD, List.set, Option.some.injEq, exists_eq_left', load1V, g1, g3]
    refine s_reg ?_
    simp only [o_pure, o_callF, POp.ev, Opd.ev, gv, setD, List.map, Option.some.injEq, exists_eq_left', convV, w1]
    refine (size_ok _ n G (by omega)).mono ?_
    rintro _ HH ⟨rfl, hh⟩
    subst HH
    simp only [o_cont, o_pure, o_nil, POp.ev, Opd.ev, gv, setD, List.set, Option.some.injEq, exists_eq_left', binV, ne_eq, not_true_eq_false, if_false, w2, w3]
    refine s_reg ?_
    simp only [o_pure, o_eff, o_nil, POp.ev, Opd.ev, EOp.ev, gv, setD, List.map, Option.some.injEq, exists_eq_left', convV, load1V, fadV, List.getElem?_cons_zero, List.getElem?_cons_succ, Nat.zero_add, cell_blk hb4, u32_nat, bsliceU, a1, put2s (lim := lim) a8 (show lim ≤ q4 by omega) a4]
    refine s_reg1 ?_
    simp only [o_pure, o_nil, POp.ev, Opd.ev, gv, setD, List.set, Option.some.injEq, exists_eq_left', binV, if_false, n32, m32_64, shr32]
    simp +decide only [p_seq_normal, p_block_normal]
    refine s_reg1 ?_
    simp only [o_pure, o_nil, POp.ev, Opd.ev, gv, setD, List.set, Option.some.injEq, exists_eq_left', binV, ne_eq, not_true_eq_false, if_false, add1 (i := i) (by omega)]
    simp +decide only [p_seq_normal]
    refine Round.mk (k - 1) (by omega) ⟨i + 1, S / 4294967296, bo', o', du d, E ++ [S % 4294967296], by omega, put_same _ _ _, Vec.chg a2 (Chg.put _ _ _) (by omega), a3, by simp [hEl], ?_, by omega, ?_, by rw [put_ne _ _ (by omega)]; exact a5, by rw [put_next]; omega, Chg.ext a7 (Chg.put _ _ _) (by omega), rfl⟩
    · intro y hy
      rcases List.mem_append.1 hy with hy | hy
      · exact hE y hy
      · simp at hy; omega
    · rw [dval_append, List.take_succ_eq_append_getElem hlt', dval_append, hD, hEl, List.length_take, Nat.min_eq_left (by omega), Nat.pow_succ]
      have hS2 : S = S % 4294967296 + 4294967296 * (S / 4294967296) := by omega
      have e1 : dval [S % 4294967296] = S % 4294967296 := by simp [dval]
      have e2 : dval [d] = d := by simp [dval]
      rw [e1, e2, Nat.add_mul, ← hval]
      have : 4294967296 ^ i * (S % 4294967296) + 4294967296 ^ i * 4294967296 * (S / 4294967296) = 4294967296 ^ i * S := by
        conv => rhs; rw [hS2]
        rw [Nat.mul_add, Nat.mul_assoc]
      rw [Nat.add_assoc, this, ← hS, Nat.mul_add, Nat.mul_assoc, Nat.add_assoc]
  · have hge : i = D.length := by have := of_decide_eq_false hlt; omega
    subst hge
    obtain ⟨o', G', bo', a1, a2, a3, a4, a5, a6, a7, a8⟩ := step (c % 4294967296)
    rw [List.take_length] at hval
    refine s_exit1 ?_
    simp +decide only [p_seq_normal, p_seq_exit, p_block_exit, reduceIte]
    refine s_reg ?_
    simp only [o_pure, o_eff, o_nil, POp.ev, Opd.ev, EOp.ev, gv, setD, List.map, Option.some.injEq, exists_eq_left', convV, load1V, fadV, List.getElem?_cons_zero, List.getElem?_cons_succ, Nat.zero_add, cell_blk hb4, u32_nat, bsliceU, a1, put2s (lim := lim) a8 (show lim ≤ q4 by omega) a4]
    have a9 : (G'.put q4 [.bool sg, o']).blk q3 = some [.bool false, .slice none 0 0] := by rw [put_ne _ _ (by omega)]; exact a5
    refine s_reg ?_
    simp only [o_pure, o_eff, o_nil, POp.ev, Opd.ev, EOp.ev, gv, setD, Option.some.injEq, exists_eq_left', load2 (put_same _ _ _)]
    have hst : storeH lim (G'.put q4 [.bool sg, o']) 2 (.pointer (some ⟨q3, 0, none⟩)) (.agg #[.bool sg, o']) = some (undef, (G'.put q4 [.bool sg, o']).put q3 [.bool sg, o']) := store2 (by omega) a9
    simp only [Option.some.injEq, exists_eq_left', hst]
    refine s_ret1 ?_
    simp +decide only [p_fin_ret, resV, resOne, gv, Option.some.injEq, exists_eq_left', load2 (put_same _ _ _)]
    have hcc : c % 4294967296 = c := by omega
    rw [hcc] at a2
    have hE2 : dOk (E ++ [c]) := by
      intro y hy
      rcases List.mem_append.1 hy with hy | hy
      · exact hE y hy
      · simp at hy; omega
    refine ⟨⟨sg, E ++ [c], ⟨o', rfl, (Vec.chg (Vec.chg a2 (Chg.put _ _ _) (by omega)) (Chg.put _ _ _) (by omega)).sl, hE2⟩, ?_, by simp [hEl]⟩, Chg.ext (Chg.ext a7 (Chg.put _ _ _) (by omega)) (Chg.put _ _ _) (by omega)⟩
    have hd : dval (E ++ [c]) = dval D * n.natAbs := by rw [dval_append, hEl]; simpa [dval] using hval
    unfold lsv
    rw [hd, ← hsg]
    rw [Int.natCast_mul]
    by_cases hneg : n < 0
    · rw [decide_eq_true hneg, show (n.natAbs : Int) = -n by omega]
      cases b <;> simp [Int.mul_neg, Int.neg_mul]
    · rw [decide_eq_false hneg, show (n.natAbs : Int) = n by omega]
      cases b <;> simp [Int.mul_neg, Int.neg_mul]
end Go.Proofs.YtldpdjpchcoigaaGreat

/- Long numbers, the program: compared, added; no condition beyond stated ranges. -/
namespace Go.Proofs.YtldpdjpchcoigaaGreat
open Go.Ab Ints
set_option linter.unusedSimpArgs false
set_option linter.unusedVariables false

theorem dval_top {D1 D2 : List Nat} (h1 : dOk D1) (h2 : dOk D2) {i : Nat} (he : dval (D1.drop (i + 1)) = dval (D2.drop (i + 1))) (hne : D1.getD i 0 ≠ D2.getD i 0) :
    sgn3 ((dval D1 : Int) - dval D2) = cmp3 (D1.getD i 0) (D2.getD i 0) := by
  have key : ∀ {A B : List Nat}, dOk A → dOk B → dval (A.drop (i + 1)) = dval (B.drop (i + 1)) → A.getD i 0 < B.getD i 0 → dval A < dval B := by
    intro A B hA hB he hlt
    have a1 := dval_split A i
    have b1 := dval_split B i
    have a2 := dval_drop A i
    have b2 := dval_drop B i
    have hBi : i < B.length := by
      refine Nat.lt_of_not_le fun hh => ?_
      rw [List.getD_eq_getElem?_getD (l := B), List.getElem?_eq_none hh] at hlt
      simp at hlt
    have a3 := dval_lt (dOk_take hA i)
    rw [List.length_take] at a3
    rw [Nat.min_eq_left (Nat.le_of_lt hBi)] at b1
    by_cases hAi : i ≤ A.length
    · rw [Nat.min_eq_left hAi] at a1 a3
      have h3 : dval (A.drop i) + 1 ≤ dval (B.drop i) := by rw [a2, b2, he]; omega
      have h4 : 4294967296 ^ i * (dval (A.drop i) + 1) ≤ 4294967296 ^ i * dval (B.drop i) := Nat.mul_le_mul_left _ h3
      rw [Nat.mul_add, Nat.mul_one] at h4
      omega
    · have h5 : A.take i = A := List.take_of_length_le (by omega)
      rw [h5] at a3
      rw [Nat.min_eq_right (by omega)] at a3
      have h6 : 4294967296 ^ A.length ≤ 4294967296 ^ i := Nat.pow_le_pow_right (by decide) (by omega)
      have h3 : 1 ≤ dval (B.drop i) := by rw [b2]; omega
      have h4 : 4294967296 ^ i * 1 ≤ 4294967296 ^ i * dval (B.drop i) := Nat.mul_le_mul_left _ h3
      omega
  unfold cmp3
  rcases Nat.lt_or_gt_of_ne hne with h | h
  · have := key h1 h2 he h
    rw [if_pos (by omega), sg3n (by omega)]
  · have := key h2 h1 he.symm h
    rw [if_neg (by omega), if_pos (by omega), sg3p (by omega)]
theorem cmp3_ne (x y : Nat) : (cmp3 x y != 0) = decide (x ≠ y) := by
  unfold cmp3
  rcases Nat.lt_trichotomy x y with h | h | h
  · rw [if_pos (by omega)]; simp; omega
  · subst h
    rw [if_neg (by omega), if_neg (by omega)]; simp
  · rw [if_neg (by omega), if_pos (by omega)]; simp; omega
theorem compareDigits_ok (lim : Nat) (v u : Value) (b c : Bool) (D1 D2 : List Nat) (H : AHeap) (hl : lim ≤ H.next) (h1 : Lg H v b D1) (h2 : Lg H u c D2) (hn1 : D1.length ≤ 100000) (hn2 : D2.length ≤ 100000) :
    ACalls Tryz.prog lim n_impl_compareDigits [v, u] H fun r H' => r = .int .i64 (sgn3 ((dval D1 : Int) - dval D2)) ∧ Ext H H' := by
  have h1' := h1
  have h2' := h2
  obtain ⟨w1, rfl, hw1, hok1⟩ := h1'
  obtain ⟨w2, rfl, hw2, hok2⟩ := h2'
  refine is_impl_compareDigits.go rfl ?_
  unfold c_impl_compareDigits
  refine s_reg ?_
  simp only [o_pure, o_eff, o_nil, POp.ev, Opd.ev, EOp.ev, env0, gu, gv, setD, List.set, Option.map_some, Option.some.injEq, exists_eq_left', boxH, cellsV]
  have hx1 := Ext.alloc H [.bool b, w1]
  have hb1 := alloc_new H [.bool b, w1]
  have hl1 : (H.alloc [.bool b, w1]).next = H.next + 1 := rfl
  generalize H.alloc [.bool b, w1] = H1 at hx1 hb1 hl1 ⊢
  have hx2 := Ext.alloc H1 [.bool c, w2]
  have hb2 := alloc_new H1 [.bool c, w2]
  have hl2 : (H1.alloc [.bool c, w2]).next = H1.next + 1 := rfl
  replace hb1 := (hx2.blk _ (by omega)).trans hb1
  generalize H1.alloc [.bool c, w2] = H2 at hx2 hb1 hb2 hl2 ⊢
  have hx := hx1.trans hx2
  generalize hq2 : H.next = q2 at *
  generalize hq3 : H1.next = q3 at *
  obtain ⟨M, hM, m1, m2, m3⟩ : ∃ M : Nat, (if (D2.length : Int) > (D1.length : Int) then (D2.length : Int) else (D1.length : Int)) = (M : Int) ∧ D1.length ≤ M ∧ D2.length ≤ M ∧ M ≤ 100000 := ⟨max D1.length D2.length, by split <;> omega, by omega, by omega, by omega⟩
  have wM : IntKind.i64.wrap ((M : Int) - 1) = (M : Int) - 1 := wr_id (by omega) (by omega)
  refine s_assoc (s_reg ?_)
  simp only [o_pure, o_nil, POp.ev, Opd.ev, gv, setD, List.set, Option.some.injEq, exists_eq_left', binV, load1V, max2V, fadV, ne_eq, not_true_eq_false, if_false, List.getElem?_cons_zero, List.getElem?_cons_succ, Nat.zero_add, cell_blk hb1, cell_blk hb2, Sl.lenV (SlU.ext hw1 hx), Sl.lenV (SlU.ext hw2 hx), hM, wM]
  refine s_block ?_
  refine s_loop1 (fun k e' H' => k ≤ M ∧ (∃ x6, H'.blk q2 = some [.bool b, w1] ∧ H'.blk q3 = some [.bool c, w2] ∧ Ext H2 H' ∧ dval (D1.drop k) = dval (D2.drop k) ∧
    e' = [.agg #[.bool b, w1], .agg #[.bool c, w2], .pointer (some ⟨q2, 0, none⟩), .pointer (some ⟨q3, 0, none⟩), .int .i64 0, .int .i64 ((k : Int) - 1), x6])) M ⟨Nat.le_refl _, _, hb1, hb2, Ext.refl _, by rw [List.drop_of_length_le m1, List.drop_of_length_le m2], rfl⟩ ?_
  clear hb1 hb2
  rintro k e' G ⟨hkM, x6, hb1, hb2, hx3, heq, rfl⟩
  have hn3 := hx3.next
  refine s_test ?_
  simp only [o_pure, o_nil, POp.ev, Opd.ev, gv, setD, Option.some.injEq, exists_eq_left', binV, ne_eq, not_true_eq_false, if_false]
  refine Test.split (fun hlt => ?_) (fun hlt => ?_)
  · obtain ⟨i, rfl⟩ : ∃ i, k = i + 1 := ⟨k - 1, by have := of_decide_eq_true hlt; omega⟩
    have ei : ((i + 1 : Nat) : Int) - 1 = (i : Int) := by omega
    rw [ei]
    refine s_skip1 ?_
    simp +decide only [p_seq_normal]
    refine s_block ?_
    refine s_reg ?_
    simp only [o_pure, o_callN, POp.ev, Opd.ev, gv, setD, List.map, Option.some.injEq, exists_eq_left', load2 hb1, load2 hb2]
    refine (digit_ok _ _ b D1 i G (Lg.ext h1 (hx.trans hx3)) (by omega)).use ?_
    rintro _ G1 ⟨rfl, hg1⟩ _
    have hn4 := hg1.next
    simp only [o_cont, o_callF, Opd.ev, gv, setD, List.map]
    refine (digit_ok lim _ c D2 i G1 (Lg.ext h2 ((hx.trans hx3).trans hg1)) (by omega)).mono ?_
    rintro _ G2 ⟨rfl, hg2⟩
    have hn5 := hg2.next
    simp only [o_cont, o_callF, Opd.ev, gv, setD, List.map]
    refine (compareU_ok lim _ _ G2).eq ?_
    simp only [o_cont, o_pure, o_nil, POp.ev, Opd.ev, gv, setD, List.set, Option.some.injEq, exists_eq_left']
    replace hb1 := ((hg1.trans hg2).blk _ (by omega)).trans hb1
    replace hb2 := ((hg1.trans hg2).blk _ (by omega)).trans hb2
    have hx4 := (hx3.trans hg1).trans hg2
    have c0 := cmp3_ne (D1.getD i 0) (D2.getD i 0)
    refine s_test1 ?_
    simp only [o_pure, o_nil, POp.ev, Opd.ev, gv, setD, Option.some.injEq, exists_eq_left', binV, ne_eq, not_true_eq_false, if_false, c0]
    refine Test.split (fun hh => ?_) (fun hh => ?_)
    · refine s_reg ?_
      simp only [o_pure, o_nil, POp.ev, Opd.ev, gv, setD, List.set, Option.some.injEq, exists_eq_left']
      refine s_ret1 ?_
      simp +decide only [p_seq_ret, p_block_ret, p_fin_ret, resV, resOne, gv, Option.some.injEq, exists_eq_left']
      exact ⟨by rw [dval_top hok1 hok2 heq (of_decide_eq_true hh)], hx.trans hx4⟩
    · have hdd : D1.getD i 0 = D2.getD i 0 := by have := of_decide_eq_false hh; omega
      refine s_skip1 ?_
      simp +decide only [p_seq_normal, p_block_normal]
      have w1' : IntKind.i64.wrap ((i : Int) - 1) = (i : Int) - 1 := wr_id (by omega) (by omega)
      refine s_reg1 ?_
      simp only [o_pure, o_nil, POp.ev, Opd.ev, gv, setD, List.set, Option.some.injEq, exists_eq_left', binV, ne_eq, not_true_eq_false, if_false, w1']
      simp +decide only [p_seq_normal]
      exact Round.mk i (by omega) ⟨by omega, _, hb1, hb2, hx4, by rw [dval_drop, dval_drop D2, heq, hdd], rfl⟩
  · have hk : k = 0 := by have := of_decide_eq_false hlt; omega
    subst hk
    simp only [List.drop_zero] at heq
    refine s_exit1 ?_
    simp +decide only [p_seq_normal, p_seq_exit, p_block_exit, reduceIte]
    refine s_reg ?_
    simp only [o_pure, o_nil, POp.ev, Opd.ev, setD, List.set, Option.some.injEq, exists_eq_left']
    refine s_ret1 ?_
    simp +decide only [p_fin_ret, resV, resOne, gv, Option.some.injEq, exists_eq_left']
    exact ⟨by rw [heq, Int.sub_self]; rfl, hx.trans hx3⟩
end Go.Proofs.YtldpdjpchcoigaaGreat

/- Long numbers, the program: sums; no condition beyond stated ranges. -/
namespace Go.Proofs.YtldpdjpchcoigaaGreat
open Go.Ab Ints
set_option linter.unusedSimpArgs false
set_option linter.unusedVariables false

theorem dval_take_succ (X : List Nat) (i : Nat) (hi : i ≤ X.length) : dval (X.take (i + 1)) = dval (X.take i) + 4294967296 ^ i * X.getD i 0 := by
  by_cases h : i < X.length
  · rw [List.take_succ_eq_append_getElem h, dval_append, List.length_take, Nat.min_eq_left hi]
    simp [dval, h]
  · rw [List.take_of_length_le (by omega), List.take_of_length_le (by omega), List.getD_eq_getElem?_getD, List.getElem?_eq_none (by omega)]
    simp
theorem b32_pow : ∀ i : Nat, ((4294967296 ^ i : Nat) : Int) = 4294967296 ^ i
  | 0 => rfl
  | i + 1 => by rw [Nat.pow_succ, Int.pow_succ, Int.natCast_mul, b32_pow i]; rfl
theorem dval_take_succ' (X : List Nat) (i : Nat) : (dval (X.take (i + 1)) : Int) = dval (X.take i) + 4294967296 ^ i * (X.getD i 0 : Nat) := by
  by_cases h : i ≤ X.length
  · rw [dval_take_succ X i h, Int.natCast_add, Int.natCast_mul, b32_pow]
  · rw [List.take_of_length_le (by omega), List.take_of_length_le (by omega), List.getD_eq_getElem?_getD, List.getElem?_eq_none (by omega)]
    simp
theorem dval_take_all {X Y : List Nat} (hX : dOk X) (h : dval Y ≤ dval X) : dval (Y.take (X.length + 1)) = dval Y := by
  by_cases hl : Y.length ≤ X.length + 1
  · rw [List.take_of_length_le hl]
  · have h1 := dval_split Y (X.length + 1)
    rw [Nat.min_eq_left (by omega)] at h1
    have h2 := dval_lt hX
    have h3 : dval (Y.drop (X.length + 1)) = 0 := by
      refine Nat.eq_zero_of_not_pos fun hp => ?_
      have h4 : 4294967296 ^ (X.length + 1) * 1 ≤ 4294967296 ^ (X.length + 1) * dval (Y.drop (X.length + 1)) := Nat.mul_le_mul_left _ hp
      rw [Nat.pow_succ] at h4 h1
      omega
    rw [h3] at h1
    omega
def sgd (d e : Bool) : Int := if d = e then 1 else -1
theorem sgd_cases (d e : Bool) : sgd d e = 1 ∧ d = e ∨ sgd d e = -1 ∧ e = !d := by
  cases d <;> cases e <;> simp [sgd]
/-- the last carry is none -/
theorem plus_end {X Y E : List Nat} {d e : Bool} {c : Int} (hX : dOk X) (hE : dOk E) (hle : dval Y ≤ dval X) (hc : -1 ≤ c ∧ c ≤ 1) (hEl : E.length = X.length + 1)
    (hv : (dval E : Int) + 4294967296 ^ (X.length + 1) * c = dval (X.take (X.length + 1)) + sgd d e * (dval (Y.take (X.length + 1)) : Nat)) : lsv d E = lsv d X + lsv e Y := by
  rw [dval_take_all hX hle, List.take_of_length_le (by omega)] at hv
  have h1 := dval_lt hX
  have h2 := dval_lt hE
  rw [hEl] at h2
  have h4 : (4294967296 : Nat) ^ (X.length + 1) = 4294967296 ^ X.length * 4294967296 := Nat.pow_succ ..
  have hp : ((4294967296 : Int) ^ (X.length + 1)) = ((4294967296 ^ (X.length + 1) : Nat) : Int) := (b32_pow _).symm
  rw [hp] at hv
  rw [h4] at h2 hv
  generalize 4294967296 ^ X.length = P at *
  have hc0 : c = 0 := by
    obtain rfl | rfl | rfl : c = -1 ∨ c = 0 ∨ c = 1 := by omega
    · exfalso
      rcases sgd_cases d e with ⟨h, _⟩ | ⟨h, _⟩ <;> rw [h] at hv <;> omega
    · rfl
    · exfalso
      rcases sgd_cases d e with ⟨h, _⟩ | ⟨h, _⟩ <;> rw [h] at hv <;> omega
  subst hc0
  rcases sgd_cases d e with ⟨h, rfl⟩ | ⟨h, rfl⟩
  · rw [h] at hv
    have : (dval E : Int) = dval X + dval Y := by omega
    unfold lsv
    rw [this]
    cases d
    · simp only [Bool.false_eq_true, if_false]
    · simp only [if_true]; omega
  · rw [h] at hv
    have : (dval E : Int) = dval X - dval Y := by omega
    unfold lsv
    rw [this]
    cases d
    · simp only [Bool.false_eq_true, if_false, Bool.not_false, if_true]; omega
    · simp only [if_true, Bool.not_true, Bool.false_eq_true, if_false]; omega
theorem min32_i : min (32 : Int).toNat IntKind.i64.bits = 32 := by decide
theorem fdiv32 (d : Int) : d.fdiv (2 ^ 32) = d / 4294967296 := by
  rw [Int.fdiv_eq_ediv_of_nonneg _ (by decide)]
  rfl
/-- a long number whose digits lie in a block of their own -/
def LgV (lo : Nat) (H : AHeap) (v : Value) (b : Bool) (D : List Nat) : Prop := ∃ w c, v = .agg #[.bool b, w] ∧ lo ≤ c ∧ VecU H c w D ∧ dOk D
theorem plus_ok (lim : Nat) (v u : Value) (b c : Bool) (D1 D2 : List Nat) (H : AHeap) (hl : lim ≤ H.next) (h1 : Lg H v b D1) (h2 : Lg H u c D2) (hn1 : D1.length ≤ 10000) (hn2 : D2.length ≤ 10000) :
    ACalls Tryz.prog lim n_impl_long_plus [v, u] H fun r H' => (∃ (s : Bool) (E : List Nat), LgV H.next H' r s E ∧ lsv s E = lsv b D1 + lsv c D2 ∧ E.length ≤ max D1.length D2.length + 1) ∧ Ext H H' := by
  obtain ⟨w1, rfl, hw1, hok1⟩ := h1
  obtain ⟨w2, rfl, hw2, hok2⟩ := h2
  refine is_impl_long_plus.go rfl ?_
  unfold c_impl_long_plus
  refine s_reg ?_
  simp only [o_eff, o_nil, Opd.ev, EOp.ev, env0, gu, gv, setD, List.set, Option.map_some, Option.some.injEq, exists_eq_left', boxH, cellsV]
  have hx1 := Ext.alloc H [.bool b, w1]
  have hb1 := alloc_new H [.bool b, w1]
  have hl1 : (H.alloc [.bool b, w1]).next = H.next + 1 := rfl
  generalize H.alloc [.bool b, w1] = H1 at hx1 hb1 hl1 ⊢
  have hx2 := Ext.alloc H1 [.bool c, w2]
  have hb2 := alloc_new H1 [.bool c, w2]
  have hl2 : (H1.alloc [.bool c, w2]).next = H1.next + 1 := rfl
  replace hb1 := (hx2.blk _ (by omega)).trans hb1
  generalize H1.alloc [.bool c, w2] = H2 at hx2 hb1 hb2 hl2 ⊢
  have hx3 := Ext.alloc H2 [.bool false, .slice none 0 0]
  have hb4 := alloc_new H2 [.bool false, .slice none 0 0]
  have hl3 : (H2.alloc [.bool false, .slice none 0 0]).next = H2.next + 1 := rfl
  replace hb1 := (hx3.blk _ (by omega)).trans hb1
  replace hb2 := (hx3.blk _ (by omega)).trans hb2
  generalize H2.alloc [.bool false, .slice none 0 0] = H3 at hx3 hb1 hb2 hb4 hl3 ⊢
  have hx := (hx1.trans hx2).trans hx3
  generalize hq2 : H.next = q2 at *
  generalize hq3 : H1.next = q3 at *
  generalize hq4 : H2.next = q4 at *
  clear hx1 hx2 hx3
  refine s_cut (fun e' H' => ∃ (d e : Bool) (x y : Value) (X Y : List Nat), SlU H x X ∧ SlU H y Y ∧ dOk X ∧ dOk Y ∧ dval Y ≤ dval X ∧ lsv d X + lsv e Y = lsv b D1 + lsv c D2 ∧ X.length ≤ max D1.length D2.length ∧ Y.length ≤ max D1.length D2.length ∧
    H'.blk q2 = some [.bool d, x] ∧ H'.blk q3 = some [.bool e, y] ∧ H'.blk q4 = some [.bool false, .slice none 0 0] ∧ q4 < H'.next ∧ Ext H H' ∧
    e' = [.agg #[.bool b, w1], .agg #[.bool c, w2], .pointer (some ⟨q2, 0, none⟩), .pointer (some ⟨q3, 0, none⟩), .pointer (some ⟨q4, 0, none⟩), undef, undef, undef, undef, undef, undef]) ?_ ?_
  · refine s_test1 ?_
    simp only [o_pure, o_callF, POp.ev, Opd.ev, gv, setD, List.map, Option.some.injEq, exists_eq_left', load2 hb1, load2 hb2]
    refine (compareDigits_ok lim _ _ b c D1 D2 H3 (by omega) ⟨w1, rfl, SlU.ext hw1 hx, hok1⟩ ⟨w2, rfl, SlU.ext hw2 hx, hok2⟩ (by omega) (by omega)).mono ?_
    rintro _ H4 ⟨rfl, hx4⟩
    have hn4 := hx4.next
    replace hb1 := (hx4.blk _ (by omega)).trans hb1
    replace hb2 := (hx4.blk _ (by omega)).trans hb2
    replace hb4 := (hx4.blk _ (by omega)).trans hb4
    simp only [o_cont, o_pure, o_nil, POp.ev, Opd.ev, gv, setD, Option.some.injEq, exists_eq_left', binV, ne_eq, not_true_eq_false, if_false]
    refine Test.split (fun hg => ?_) (fun hg => ?_)
    · have hlt : dval D1 < dval D2 := by
        have := of_decide_eq_true hg
        rcases sgn3_cases ((dval D1 : Int) - dval D2) with h | h | h <;> omega
      have hb2' : (H4.put q2 [.bool c, w2]).blk q3 = some [.bool c, w2] := by rw [put_ne _ _ (by omega)]; exact hb2
      refine s_reg1 ?_
      simp only [o_pure, o_eff, o_nil, POp.ev, Opd.ev, EOp.ev, gv, setD, Option.some.injEq, exists_eq_left', load2 hb1, load2 hb2, store2 (lim := lim) (show lim ≤ q2 by omega) hb1, store2 (lim := lim) (show lim ≤ q3 by omega) hb2']
      simp +decide only [p_seq_normal]
      exact ⟨c, b, w2, w1, D2, D1, hw2, hw1, hok2, hok1, by omega, by omega, by omega, by omega, by rw [put_ne _ _ (by omega)]; exact put_same _ _ _, put_same _ _ _, by rw [put_ne _ _ (by omega), put_ne _ _ (by omega)]; exact hb4, by rw [put_next, put_next]; omega, Chg.ext (Chg.ext (hx.trans hx4) (Chg.put _ _ _) (by omega)) (Chg.put _ _ _) (by omega), trivial⟩
    · have hge : dval D2 ≤ dval D1 := by
        have := of_decide_eq_false hg
        rcases sgn3_cases ((dval D1 : Int) - dval D2) with h | h | h <;> omega
      refine s_skip1 ?_
      simp +decide only [p_seq_normal]
      exact ⟨b, c, w1, w2, D1, D2, hw1, hw2, hok1, hok2, hge, rfl, by omega, by omega, hb1, hb2, hb4, by omega, hx.trans hx4, trivial⟩
  clear hb1 hb2 hb4 hx
  rintro e' G0 ⟨d, e, x, y, X, Y, hX, hY, oX, oY, hle, hsum, lX, lY, hb1, hb2, hb4, hq4l, hx, rfl⟩
  rw [← hsum]
  clear hsum
  have hn0 := hx.next
  refine s_reg ?_
  simp only [o_pure, o_eff, o_nil, POp.ev, Opd.ev, EOp.ev, gv, setD, List.set, List.map, Option.map_some, Option.some.injEq, exists_eq_left', load1V, fadV, List.getElem?_cons_zero, Nat.zero_add, cell_blk hb1, fillL, store2_new (lim := lim) (H := G0) (show lim ≤ G0.next by omega)]
  have hx5 := Ext.alloc G0 [.bool d, .slice none 0 0]
  have hb5 := alloc_new G0 [.bool d, .slice none 0 0]
  have hl5 : (G0.alloc [.bool d, .slice none 0 0]).next = G0.next + 1 := rfl
  replace hb1 := (hx5.blk _ (by omega)).trans hb1
  replace hb2 := (hx5.blk _ (by omega)).trans hb2
  replace hb4 := (hx5.blk _ (by omega)).trans hb4
  generalize G0.alloc [.bool d, .slice none 0 0] = G1 at hx5 hb1 hb2 hb4 hb5 hl5 ⊢
  replace hx := hx.trans hx5
  generalize hq5 : G0.next = q5 at *
  refine s_reg ?_
  simp only [o_pure, o_nil, POp.ev, Opd.ev, setD, List.set, Option.some.injEq, exists_eq_left']
  have lenX := Sl.lenV (SlU.ext hX hx)
  refine s_assoc (s_reg ?_)
  simp only [o_pure, o_nil, POp.ev, Opd.ev, gv, setD, List.set, Option.some.injEq, exists_eq_left', binV, load1V, fadV, ne_eq, not_true_eq_false, if_false, List.getElem?_cons_zero, List.getElem?_cons_succ, Nat.zero_add, cell_blk hb1, lenX, add1 (i := X.length) (by omega)]
  refine s_block ?_
  refine s_loop1 (fun k e' H' => ∃ (i bo : Nat) (cr : Int) (o x7 x8 : Value) (E : List Nat), i + k = X.length + 1 ∧ H'.blk q5 = some [.bool d, o] ∧ VecU H' bo o E ∧ q5 < bo ∧ E.length = i ∧ dOk E ∧ (-1 ≤ cr ∧ cr ≤ 1) ∧ (dval E : Int) + 4294967296 ^ i * cr = dval (X.take i) + sgd d e * (dval (Y.take i) : Nat) ∧
    H'.blk q2 = some [.bool d, x] ∧ H'.blk q3 = some [.bool e, y] ∧ H'.blk q4 = some [.bool false, .slice none 0 0] ∧ q5 < H'.next ∧ Ext H H' ∧
    e' = [.agg #[.bool b, w1], .agg #[.bool c, w2], .pointer (some ⟨q2, 0, none⟩), .pointer (some ⟨q3, 0, none⟩), .pointer (some ⟨q4, 0, none⟩), .pointer (some ⟨q5, 0, none⟩), .int .i64 cr, x7, x8, .int .i64 ((X.length + 1 : Nat) : Int), .int .i64 i]) (X.length + 1)
    ⟨0, q5 + 1, 0, _, _, _, [], by omega, hb5, Vec.nil _ _ _, by omega, rfl, (by intro d hd; cases hd), by decide, by simp [dval], hb1, hb2, hb4, by omega, hx, rfl⟩ ?_
  clear hb1 hb2 hb4 hb5 lenX hx hx5
  rintro k e' G ⟨i, bo, cr, o, x7, x8, E, hik, hb5, hv, hq, hEl, hE, hcr, hval, hb1, hb2, hb4, hqn, hx, rfl⟩
  have hnG := hx.next
  refine s_test ?_
  simp only [o_pure, o_nil, POp.ev, Opd.ev, gv, setD, Option.some.injEq, exists_eq_left', binV, ne_eq, not_true_eq_false, if_false]
  refine Test.split (fun hlt => ?_) (fun hlt => ?_)
  · have hlt' : i < X.length + 1 := by have := of_decide_eq_true hlt; omega
    have xd := dOk_get oX i
    have yd := dOk_get oY i
    have e1 := dval_take_succ' X i
    have e2 := dval_take_succ' Y i
    refine s_skip1 ?_
    simp +decide only [p_seq_normal]
    refine s_block ?_
    refine s_reg ?_
    simp only [o_pure, o_nil, POp.ev, Opd.ev, gv, setD, List.set, Option.some.injEq, exists_eq_left']
    refine s_reg ?_
    simp only [o_pure, o_callF, POp.ev, Opd.ev, gv, setD, List.map, Option.some.injEq, exists_eq_left', load2 hb1]
    refine (digit_ok lim _ d X i G ⟨x, rfl, SlU.ext hX hx, oX⟩ (by omega)).mono ?_
    rintro _ G2 ⟨rfl, hg2⟩
    have hn2 := hg2.next
    have w1' : IntKind.i64.wrap ((X.getD i 0 : Nat) : Int) = ((X.getD i 0 : Nat) : Int) := wr_nat (by omega)
    have w2' : IntKind.i64.wrap ((Y.getD i 0 : Nat) : Int) = ((Y.getD i 0 : Nat) : Int) := wr_nat (by omega)
    have w3' : IntKind.i64.wrap (cr + ((X.getD i 0 : Nat) : Int)) = cr + ((X.getD i 0 : Nat) : Int) := wr_id (by omega) (by omega)
    have w4' : IntKind.i64.wrap (cr + ((X.getD i 0 : Nat) : Int) + ((Y.getD i 0 : Nat) : Int)) = cr + ((X.getD i 0 : Nat) : Int) + ((Y.getD i 0 : Nat) : Int) := wr_id (by omega) (by omega)
    have w5' : IntKind.i64.wrap (cr + ((X.getD i 0 : Nat) : Int) - ((Y.getD i 0 : Nat) : Int)) = cr + ((X.getD i 0 : Nat) : Int) - ((Y.getD i 0 : Nat) : Int) := wr_id (by omega) (by omega)
    simp only [o_cont, o_pure, o_nil, POp.ev, Opd.ev, gv, setD, List.set, Option.some.injEq, exists_eq_left', binV, convV, ne_eq, not_true_eq_false, if_false, w1', w3']
    replace hb1 := (hg2.blk _ (by omega)).trans hb1
    replace hb2 := (hg2.blk _ (by omega)).trans hb2
    replace hb4 := (hg2.blk _ (by omega)).trans hb4
    replace hb5 := (hg2.blk _ (by omega)).trans hb5
    replace hv := Vec.ext hv hg2
    have hxg := hx.trans hg2
    generalize hxi : X.getD i 0 = xi at *
    generalize hyi : Y.getD i 0 = yi at *
    refine s_cut (fun e' H' => ∃ (S : Int), S = cr + xi + sgd d e * yi ∧ Ext G2 H' ∧
      e' = [.agg #[.bool b, w1], .agg #[.bool c, w2], .pointer (some ⟨q2, 0, none⟩), .pointer (some ⟨q3, 0, none⟩), .pointer (some ⟨q4, 0, none⟩), .pointer (some ⟨q5, 0, none⟩), .int .i64 cr, .int .i64 i, .int .i64 S, .int .i64 ((X.length + 1 : Nat) : Int), .int .i64 i]) ?_ ?_
    · have dig : ∀ (K : Value → AHeap → Prop), (∀ G3, Ext G2 G3 → K (du yi) G3) → ACalls Tryz.prog lim n_impl_long_digit [.agg #[.bool e, y], .int .i64 (i : Int)] G2 K := by
        intro K hK
        refine (digit_ok lim _ e Y i G2 ⟨y, rfl, SlU.ext hY hxg, oY⟩ (by omega)).mono ?_
        rintro _ G3 ⟨rfl, hg3⟩
        rw [hyi]
        exact hK G3 hg3
      refine s_test1 ?_
      simp only [o_pure, o_nil, POp.ev, Opd.ev, gv, setD, Option.some.injEq, exists_eq_left', load1V, boolEq, fadV, if_false, Bool.false_eq_true, List.getElem?_cons_zero, Nat.zero_add, cell_blk hb1, cell_blk hb2]
      refine Test.split (fun hh => ?_) (fun hh => ?_)
      · have hde : sgd d e = 1 := by
          have : d = e := by cases d <;> cases e <;> first | rfl | (cases hh)
          unfold sgd; rw [if_pos this]
        refine s_reg1 ?_
        simp only [o_pure, o_callF, POp.ev, Opd.ev, gv, setD, List.map, Option.some.injEq, exists_eq_left', load2 hb2]
        refine dig _ fun G3 hg3 => ?_
        simp only [o_cont, o_pure, o_nil, POp.ev, Opd.ev, gv, setD, List.set, Option.some.injEq, exists_eq_left', binV, convV, ne_eq, not_true_eq_false, if_false, w2', w4']
        simp +decide only [p_seq_normal]
        exact ⟨_, by rw [hde]; omega, hg3, rfl⟩
      · have hde : sgd d e = -1 := by
          have : d ≠ e := by intro h; subst h; cases d <;> cases hh
          unfold sgd; rw [if_neg this]
        refine s_reg1 ?_
        simp only [o_pure, o_callF, POp.ev, Opd.ev, gv, setD, List.map, Option.some.injEq, exists_eq_left', load2 hb2]
        refine dig _ fun G3 hg3 => ?_
        simp only [o_cont, o_pure, o_nil, POp.ev, Opd.ev, gv, setD, List.set, Option.some.injEq, exists_eq_left', binV, convV, ne_eq, not_true_eq_false, if_false, w2', w5']
        simp +decide only [p_seq_normal]
        exact ⟨_, by rw [hde]; omega, hg3, rfl⟩
    · rintro e' G3 ⟨S, hS, hg3, rfl⟩
      have hn3 := hg3.next
      replace hb1 := (hg3.blk _ (by omega)).trans hb1
      replace hb2 := (hg3.blk _ (by omega)).trans hb2
      replace hb4 := (hg3.blk _ (by omega)).trans hb4
      replace hb5 := (hg3.blk _ (by omega)).trans hb5
      replace hv := Vec.ext hv hg3
      replace hxg := hxg.trans hg3
      have hdg : IntKind.u32.wrap S = ((S % 4294967296).toNat : Int) := by rw [u32_wrap]; omega
      have hSr : -1 ≤ S / 4294967296 ∧ S / 4294967296 ≤ 1 := by
        rcases sgd_cases d e with ⟨h, _⟩ | ⟨h, _⟩ <;> rw [h] at hS <;> omega
      obtain ⟨o', G', bo', a1, a2, a3, _, a4⟩ := VecU.push (lim := lim) hv (S % 4294967296).toNat (by omega) (by omega)
      have a5 := a4.next
      have a6 := (a4.blk q5 (by omega) (by omega)).trans hb5
      refine s_reg ?_
      simp only [o_pure, o_eff, o_nil, POp.ev, Opd.ev, EOp.ev, gv, setD, List.map, Option.some.injEq, exists_eq_left', convV, load1V, fadV, List.getElem?_cons_zero, List.getElem?_cons_succ, Nat.zero_add, cell_blk hb5, hdg, bsliceU, a1, put2s (lim := lim) (Sl.cellsV1 a2.sl) (show lim ≤ q5 by omega) a6]
      refine s_reg1 ?_
      simp only [o_pure, o_nil, POp.ev, Opd.ev, gv, setD, List.set, Option.some.injEq, exists_eq_left', binV, if_false, n32, min32_i, fdiv32]
      simp +decide only [p_seq_normal, p_block_normal]
      refine s_reg1 ?_
      simp only [o_pure, o_nil, POp.ev, Opd.ev, gv, setD, List.set, Option.some.injEq, exists_eq_left', binV, ne_eq, not_true_eq_false, if_false, add1 (i := i) (by omega)]
      simp +decide only [p_seq_normal]
      refine Round.mk (k - 1) (by omega) ⟨i + 1, bo', S / 4294967296, o', _, _, E ++ [(S % 4294967296).toNat], by omega, put_same _ _ _, Vec.chg a2 (Chg.put _ _ _) (by rcases a3 with rfl | a3 <;> omega), by rcases a3 with rfl | a3 <;> omega, by simp [hEl], ?_, hSr, ?_,
        by rw [put_ne _ _ (by omega)]; exact (a4.blk _ (by omega) (by omega)).trans hb1, by rw [put_ne _ _ (by omega)]; exact (a4.blk _ (by omega) (by omega)).trans hb2, by rw [put_ne _ _ (by omega)]; exact (a4.blk _ (by omega) (by omega)).trans hb4, by rw [put_next]; omega, Chg.ext (Chg.ext hxg a4 (by omega)) (Chg.put _ _ _) (by omega), rfl⟩
      · intro z hz
        rcases List.mem_append.1 hz with hz | hz
        · exact hE z hz
        · simp at hz; omega
      · rw [dval_append, hEl, e1, e2]
        have ed : dval [(S % 4294967296).toNat] = (S % 4294967296).toNat := by simp [dval]
        rw [ed]
        have hS2 : S = ((S % 4294967296).toNat : Int) + 4294967296 * (S / 4294967296) := by omega
        rw [Int.natCast_add, Int.natCast_mul, b32_pow, Int.pow_succ]
        generalize (4294967296 : Int) ^ i = P at *
        generalize ((S % 4294967296).toNat : Int) = r at *
        generalize S / 4294967296 = t at *
        grind
  · have hge : i = X.length + 1 := by have := of_decide_eq_false hlt; omega
    subst hge
    refine s_exit1 ?_
    simp +decide only [p_seq_normal, p_seq_exit, p_block_exit, reduceIte]
    refine s_reg ?_
    simp only [o_pure, o_eff, o_nil, POp.ev, Opd.ev, EOp.ev, gv, setD, Option.some.injEq, exists_eq_left', load2 hb5, store2 (lim := lim) (show lim ≤ q4 by omega) hb4]
    refine s_ret1 ?_
    simp +decide only [p_fin_ret, resV, resOne, gv, Option.some.injEq, exists_eq_left', load2 (put_same _ _ _)]
    refine ⟨⟨d, E, ⟨o, bo, rfl, by omega, Vec.chg hv (Chg.put _ _ _) (by omega), hE⟩, plus_end oX hE hle hcr hEl hval, by omega⟩, Chg.ext hx (Chg.put _ _ _) (by omega)⟩
end Go.Proofs.YtldpdjpchcoigaaGreat
