/- FnExactShiftBox: the specification's function and the implementation's; no condition beyond stated lengths. -/
import Derived.Test.YtfnjjkljpegoeaaK11
namespace Go.Proofs.Ytfnjjkljpegoeaa
open Go.Ab
set_option linter.unusedSimpArgs false
set_option linter.unusedVariables false

def inN (n : Int) : Bool := decide (-8 ≤ n) && decide (n ≤ 8)
def shiB (k side n : Int) (low high : List Int) : Bool × Nat × List Int × List Int :=
  if goodB k low high && inS side low && inN n then makeB k.toNat (low.set side.toNat (low.getD side.toNat 0 + n * 2 ^ k.toNat)) (high.set side.toNat (high.getD side.toNat 0 + n * 2 ^ k.toNat)) else (false, 0, [], [])
theorem shift_small {n : Int} {k : Nat} (hk : k ≤ 8) (hn : -8 ≤ n ∧ n ≤ 8) : -2048 ≤ n * 2 ^ k ∧ n * 2 ^ k ≤ 2048 := by
  obtain ⟨h1, h2⟩ := two_pow hk
  generalize (2 : Int) ^ k = p at h1 h2 ⊢
  have h3 : p ≤ 256 := by simpa using h2
  obtain ⟨h4, h5⟩ := hn
  constructor
  · have h6 : -8 * p ≤ n * p := Int.mul_le_mul_of_nonneg_right h4 (by omega)
    omega
  · have h6 : n * p ≤ 8 * p := Int.mul_le_mul_of_nonneg_right h5 (by omega)
    omega
theorem sShift_ok (lim : Nat) (v : Value) (k side n : Int) (low high : List Int) (H : AHeap) (hl : lim ≤ H.next) (hv : BoxV H v k low high) (hn : low.length ≤ 100000000) (hn2 : high.length ≤ 100000000) :
    ACalls Try.prog lim n_spec_ShiftBox [v, .int .i64 side, .int .i64 n] H fun v H' => BoxR H.next H' v (shiB k side n low high).1 (shiB k side n low high).2.1 (shiB k side n low high).2.2.1 (shiB k side n low high).2.2.2 ∧ Ext H H' := by
  obtain ⟨s, t, rfl, hs, ht⟩ := hv
  refine is_spec_ShiftBox.go rfl ?_
  unfold c_spec_ShiftBox
  refine s_reg ?_
  simp only [o_cont, o_callT, callV_fn, o_pure, o_eff, o_callF, o_callN, o_guard, gk_tt, gk_ff, gk_tf, gk_ft, o_nil, POp.ev, Opd.ev, EOp.ev, env0, gu, gv, setD, resV, List.set, List.map, List.map_nil, List.map_cons, Option.map_none, Option.map_some, Option.some.injEq, exists_eq_left', pickV, binV, convV, load1V, max2V, min2V, nilchkV, unV, boolEq, isNilV, fadV, extV, slenV, ne_eq, not_true_eq_false, if_false, if_true, ite_true, ite_false, Bool.false_eq_true, Bool.true_eq_false, beq_true, beq_false, beq_self_eq_true, Bool.not_true, Bool.not_false, reduceCtorEq, List.getElem?_toArray, List.getElem?_cons_zero, List.getElem?_cons_succ, boxH, cellsV]
  have hE := BxE.mk' (k := k) hs ht
  have hnx : (H.alloc [.int .i64 k, s, t]).next = H.next + 1 := rfl
  rw [hnx]
  generalize (H.alloc [.int .i64 k, s, t]).alloc [.int .i64 0, .slice none 0 0, .slice none 0 0] = H1 at hE ⊢
  generalize H.next + 1 = r at hE ⊢
  have hg0 := hE.ge
  have hl0 := hE.lt
  refine s_test_I (!(goodB k low high && inS side low && inN n)) (Ext H1) ?_ (fun H2 hx hg => ?_) (fun H2 hx hg => ?_)
  · simp only [o_cont, o_callT, callV_fn, o_pure, o_eff, o_callF, o_callN, o_guard, gk_tt, gk_ff, gk_tf, gk_ft, o_nil, POp.ev, Opd.ev, EOp.ev, env0, gu, gv, setD, resV, List.set, List.map, List.map_nil, List.map_cons, Option.map_none, Option.map_some, Option.some.injEq, exists_eq_left', pickV, binV, convV, load1V, max2V, min2V, nilchkV, unV, boolEq, isNilV, fadV, extV, slenV, ne_eq, not_true_eq_false, if_false, if_true, ite_true, ite_false, Bool.false_eq_true, Bool.true_eq_false, beq_true, beq_false, beq_self_eq_true, Bool.not_true, Bool.not_false, reduceCtorEq, List.getElem?_toArray, List.getElem?_cons_zero, List.getElem?_cons_succ, load3 hE.bp]
    refine (bxSide_ok lim _ _ _ _ _ _ (by omega) hE.boxV (by omega) (by omega)).mono ?_
    rintro v H' ⟨rfl, hx⟩
    cases hgs : goodB k low high && inS side low
    · simp only [o_cont, o_callT, callV_fn, o_pure, o_eff, o_callF, o_callN, o_guard, gk_tt, gk_ff, gk_tf, gk_ft, o_nil, POp.ev, Opd.ev, EOp.ev, env0, gu, gv, setD, resV, List.set, List.map, List.map_nil, List.map_cons, Option.map_none, Option.map_some, Option.some.injEq, exists_eq_left', pickV, binV, convV, load1V, max2V, min2V, nilchkV, unV, boolEq, isNilV, fadV, extV, slenV, ne_eq, not_true_eq_false, if_false, if_true, ite_true, ite_false, Bool.false_eq_true, Bool.true_eq_false, beq_true, beq_false, beq_self_eq_true, Bool.not_true, Bool.not_false, reduceCtorEq, List.getElem?_toArray, List.getElem?_cons_zero, List.getElem?_cons_succ]
      simp [hx]
    · simp only [o_cont, o_callT, callV_fn, o_pure, o_eff, o_callF, o_callN, o_guard, gk_tt, gk_ff, gk_tf, gk_ft, o_nil, POp.ev, Opd.ev, EOp.ev, env0, gu, gv, setD, resV, List.set, List.map, List.map_nil, List.map_cons, Option.map_none, Option.map_some, Option.some.injEq, exists_eq_left', pickV, binV, convV, load1V, max2V, min2V, nilchkV, unV, boolEq, isNilV, fadV, extV, slenV, ne_eq, not_true_eq_false, if_false, if_true, ite_true, ite_false, Bool.false_eq_true, Bool.true_eq_false, beq_true, beq_false, beq_self_eq_true, Bool.not_true, Bool.not_false, reduceCtorEq, List.getElem?_toArray, List.getElem?_cons_zero, List.getElem?_cons_succ]
      refine (l1In_ok _ _ _ _ _).eq ?_
      simp only [o_cont, o_callT, callV_fn, o_pure, o_eff, o_callF, o_callN, o_guard, gk_tt, gk_ff, gk_tf, gk_ft, o_nil, POp.ev, Opd.ev, EOp.ev, env0, gu, gv, setD, resV, List.set, List.map, List.map_nil, List.map_cons, Option.map_none, Option.map_some, Option.some.injEq, exists_eq_left', pickV, binV, convV, load1V, max2V, min2V, nilchkV, unV, boolEq, isNilV, fadV, extV, slenV, ne_eq, not_true_eq_false, if_false, if_true, ite_true, ite_false, Bool.false_eq_true, Bool.true_eq_false, beq_true, beq_false, beq_self_eq_true, Bool.not_true, Bool.not_false, reduceCtorEq, List.getElem?_toArray, List.getElem?_cons_zero, List.getElem?_cons_succ]
      simp [hx, inN]
  · replace hE := hE.mono hx
    simp only [Bool.not_eq_true'] at hg
    refine s_reg ?_
    simp only [o_cont, o_callT, callV_fn, o_pure, o_eff, o_callF, o_callN, o_guard, gk_tt, gk_ff, gk_tf, gk_ft, o_nil, POp.ev, Opd.ev, EOp.ev, env0, gu, gv, setD, resV, List.set, List.map, List.map_nil, List.map_cons, Option.map_none, Option.map_some, Option.some.injEq, exists_eq_left', pickV, binV, convV, load1V, max2V, min2V, nilchkV, unV, boolEq, isNilV, fadV, extV, slenV, ne_eq, not_true_eq_false, if_false, if_true, ite_true, ite_false, Bool.false_eq_true, Bool.true_eq_false, beq_true, beq_false, beq_self_eq_true, Bool.not_true, Bool.not_false, reduceCtorEq, List.getElem?_toArray, List.getElem?_cons_zero, List.getElem?_cons_succ, zero_box, store3 (lim := lim) (b := r) (by omega) hE.br]
    refine s_ret1 ?_
    simp +decide only [p_seq_normal, p_seq_ret, p_seq_exit, p_block_normal, p_block_ret, p_block_exit, p_fin_ret, p_fin_normal, reduceIte, Nat.reduceEqDiff, resV, resOne, resL, gv, Option.some.injEq, exists_eq_left', Option.bind_some, Option.map_some, List.getD_cons_zero, List.getD_cons_succ, load3 (put_same _ _ _)]
    refine ⟨.inl ⟨?_, rfl⟩, Chg.ext hE.ext (Chg.put _ _ _) (by omega)⟩
    simp [shiB, hg]
  · replace hE := hE.mono hx
    simp only [Bool.not_eq_false'] at hg
    have hgd : goodB k low high = true := by simp only [Bool.and_eq_true] at hg; exact hg.1.1
    have hsd : inS side low = true := by simp only [Bool.and_eq_true] at hg; exact hg.1.2
    have hnn : -8 ≤ n ∧ n ≤ 8 := by simp only [Bool.and_eq_true, inN, decide_eq_true_eq] at hg; exact hg.2
    obtain ⟨g1, g2, g3, g4, g5, g6, g7⟩ := goodB_small hgd
    simp only [inS, Bool.and_eq_true, decide_eq_true_eq] at hsd
    obtain ⟨sd, rfl⟩ : ∃ n : Nat, side = n := ⟨side.toNat, by omega⟩
    have hsl : sd < low.length := by omega
    have hsh : sd < high.length := by omega
    refine s_skip1 ?_
    simp +decide only [p_seq_normal, p_seq_ret, p_seq_exit, p_block_normal, p_block_ret, p_block_exit, p_fin_ret, p_fin_normal, reduceIte, Nat.reduceEqDiff, resV, resOne, resL, gv, Option.some.injEq, exists_eq_left', Option.bind_some, Option.map_some, List.getD_cons_zero, List.getD_cons_succ]
    refine s_reg ?_
    simp only [o_cont, o_callT, callV_fn, o_pure, o_eff, o_callF, o_callN, o_guard, gk_tt, gk_ff, gk_tf, gk_ft, o_nil, POp.ev, Opd.ev, EOp.ev, env0, gu, gv, setD, resV, List.set, List.map, List.map_nil, List.map_cons, Option.map_none, Option.map_some, Option.some.injEq, exists_eq_left', pickV, binV, convV, load1V, max2V, min2V, nilchkV, unV, boolEq, isNilV, fadV, extV, slenV, ne_eq, not_true_eq_false, if_false, if_true, ite_true, ite_false, Bool.false_eq_true, Bool.true_eq_false, beq_true, beq_false, beq_self_eq_true, Bool.not_true, Bool.not_false, reduceCtorEq, List.getElem?_toArray, List.getElem?_cons_zero, List.getElem?_cons_succ, cell_blk hE.bp, Nat.zero_add]
    have hg1 := hE.lt
    refine (l1Own_ok H2.next _ _ _ (Nat.le_refl _) hE.sl (by omega)).use ?_
    rintro s1 H3 ⟨b, hb1, hb2, hvb, hx2⟩ _
    replace hE := hE.mono hx2
    simp only [o_cont, o_callT, callV_fn, o_pure, o_eff, o_callF, o_callN, o_guard, gk_tt, gk_ff, gk_tf, gk_ft, o_nil, POp.ev, Opd.ev, EOp.ev, env0, gu, gv, setD, resV, List.set, List.map, List.map_nil, List.map_cons, Option.map_none, Option.map_some, Option.some.injEq, exists_eq_left', pickV, binV, convV, load1V, max2V, min2V, nilchkV, unV, boolEq, isNilV, fadV, extV, slenV, ne_eq, not_true_eq_false, if_false, if_true, ite_true, ite_false, Bool.false_eq_true, Bool.true_eq_false, beq_true, beq_false, beq_self_eq_true, Bool.not_true, Bool.not_false, reduceCtorEq, List.getElem?_toArray, List.getElem?_cons_zero, List.getElem?_cons_succ]
    have hn3 := hx2.next
    refine (l1Own_ok lim _ _ _ (by omega) hE.sh (by omega)).mono ?_
    rintro t1 H4 ⟨c, hc1, hc2, hvc, hx3⟩
    replace hE := hE.mono hx3
    replace hvb := hvb.ext hx3
    have hn4 := hx3.next
    simp only [o_cont, o_callT, callV_fn, o_pure, o_eff, o_callF, o_callN, o_guard, gk_tt, gk_ff, gk_tf, gk_ft, o_nil, POp.ev, Opd.ev, EOp.ev, env0, gu, gv, setD, resV, List.set, List.map, List.map_nil, List.map_cons, Option.map_none, Option.map_some, Option.some.injEq, exists_eq_left', pickV, binV, convV, load1V, max2V, min2V, nilchkV, unV, boolEq, isNilV, fadV, extV, slenV, ne_eq, not_true_eq_false, if_false, if_true, ite_true, ite_false, Bool.false_eq_true, Bool.true_eq_false, beq_true, beq_false, beq_self_eq_true, Bool.not_true, Bool.not_false, reduceCtorEq, List.getElem?_toArray, List.getElem?_cons_zero, List.getElem?_cons_succ]
    have hbp : H.next ≠ b := by omega
    have hcp : H.next ≠ c := by omega
    have hbr : r ≠ b := by omega
    have hcr : r ≠ c := by omega
    obtain ⟨kn, rfl⟩ : ∃ kn : Nat, k = kn := ⟨k.toNat, by omega⟩
    have hkn : kn ≤ 8 := by omega
    have hss := shift_small hkn hnn
    have hgh := g7 _ (List.getElem_mem hsh)
    have hgl := g6 _ (List.getElem_mem hsl)
    have h3 : H4.cell b sd = some (.int .i64 low[sd]) := hvb.cell (by simp [hsl])
    have hwm : IntKind.i64.wrap (n * 2 ^ kn) = n * 2 ^ kn := by rw [IntKind.wrap_i64]; omega
    have hwl : IntKind.i64.wrap (low[sd] + n * 2 ^ kn) = low[sd] + n * 2 ^ kn := by rw [IntKind.wrap_i64]; omega
    have hwh : IntKind.i64.wrap (high[sd] + n * 2 ^ kn) = high[sd] + n * 2 ^ kn := by rw [IntKind.wrap_i64]; omega
    have hmin : min (kn : Int).toNat IntKind.i64.bits = kn := by have hb : IntKind.i64.bits = 64 := rfl; rw [hb]; omega
    have hneg : ¬ ((kn : Int) < 0) := by omega
    have hpk : 2 ^ kn = (2 : Int) ^ kn := rfl
    obtain ⟨cs5, hs5, hv5⟩ := hvb.put1 (lim := lim) (i := sd) (by omega) (cells_int .i64 (low[sd] + n * 2 ^ kn)) (by omega)
    refine s_reg ?_
    simp only [o_cont, o_callT, callV_fn, o_pure, o_eff, o_callF, o_callN, o_guard, gk_tt, gk_ff, gk_tf, gk_ft, o_nil, POp.ev, Opd.ev, EOp.ev, env0, gu, gv, setD, resV, List.set, List.map, List.map_nil, List.map_cons, Option.map_none, Option.map_some, Option.some.injEq, exists_eq_left', pickV, binV, convV, load1V, max2V, min2V, nilchkV, unV, boolEq, isNilV, fadV, extV, slenV, ne_eq, not_true_eq_false, if_false, if_true, ite_true, ite_false, Bool.false_eq_true, Bool.true_eq_false, beq_true, beq_false, beq_self_eq_true, Bool.not_true, Bool.not_false, reduceCtorEq, List.getElem?_toArray, List.getElem?_cons_zero, List.getElem?_cons_succ, cell_blk hE.bp, Nat.zero_add, hvb.iad .i64 hsl, h3, Nat.mul_one]
    refine (power_ok _ kn _ (by omega)).use ?_
    rintro _ HH ⟨rfl, hh⟩ _
    subst HH
    simp only [o_cont, o_callT, callV_fn, o_pure, o_eff, o_callF, o_callN, o_guard, gk_tt, gk_ff, gk_tf, gk_ft, o_nil, POp.ev, Opd.ev, EOp.ev, env0, gu, gv, setD, resV, List.set, List.map, List.map_nil, List.map_cons, Option.map_none, Option.map_some, Option.some.injEq, exists_eq_left', pickV, binV, convV, load1V, max2V, min2V, nilchkV, unV, boolEq, isNilV, fadV, extV, slenV, ne_eq, not_true_eq_false, if_false, if_true, ite_true, ite_false, Bool.false_eq_true, Bool.true_eq_false, beq_true, beq_false, beq_self_eq_true, Bool.not_true, Bool.not_false, reduceCtorEq, List.getElem?_toArray, List.getElem?_cons_zero, List.getElem?_cons_succ, cell_blk hE.bp, Nat.zero_add, h3, hwm, hwl, hvb.iad .i64 hsl, Nat.mul_one, hs5]
    replace hvc := hvc.chg (Chg.put b H4 cs5) (by omega : c ≠ b)
    replace hE := hE.chg hs ht (Chg.put b H4 cs5) (by omega) hbp hbr
    have hn5 : (H4.put b cs5).next = H4.next := rfl
    generalize H4.put b cs5 = H5 at hv5 hvc hE hn5 ⊢
    have h3 : H5.cell c sd = some (.int .i64 high[sd]) := hvc.cell (by simp [hsh])
    obtain ⟨cs6, hs6, hv6⟩ := hvc.put1 (lim := lim) (i := sd) (by omega) (cells_int .i64 (high[sd] + n * 2 ^ kn)) (by omega)
    refine s_reg ?_
    simp only [o_cont, o_callT, callV_fn, o_pure, o_eff, o_callF, o_callN, o_guard, gk_tt, gk_ff, gk_tf, gk_ft, o_nil, POp.ev, Opd.ev, EOp.ev, env0, gu, gv, setD, resV, List.set, List.map, List.map_nil, List.map_cons, Option.map_none, Option.map_some, Option.some.injEq, exists_eq_left', pickV, binV, convV, load1V, max2V, min2V, nilchkV, unV, boolEq, isNilV, fadV, extV, slenV, ne_eq, not_true_eq_false, if_false, if_true, ite_true, ite_false, Bool.false_eq_true, Bool.true_eq_false, beq_true, beq_false, beq_self_eq_true, Bool.not_true, Bool.not_false, reduceCtorEq, List.getElem?_toArray, List.getElem?_cons_zero, List.getElem?_cons_succ, cell_blk hE.bp, Nat.zero_add, hvc.iad .i64 hsh, h3, Nat.mul_one]
    refine (power_ok _ kn _ (by omega)).use ?_
    rintro _ HH ⟨rfl, hh⟩ _
    subst HH
    simp only [o_cont, o_callT, callV_fn, o_pure, o_eff, o_callF, o_callN, o_guard, gk_tt, gk_ff, gk_tf, gk_ft, o_nil, POp.ev, Opd.ev, EOp.ev, env0, gu, gv, setD, resV, List.set, List.map, List.map_nil, List.map_cons, Option.map_none, Option.map_some, Option.some.injEq, exists_eq_left', pickV, binV, convV, load1V, max2V, min2V, nilchkV, unV, boolEq, isNilV, fadV, extV, slenV, ne_eq, not_true_eq_false, if_false, if_true, ite_true, ite_false, Bool.false_eq_true, Bool.true_eq_false, beq_true, beq_false, beq_self_eq_true, Bool.not_true, Bool.not_false, reduceCtorEq, List.getElem?_toArray, List.getElem?_cons_zero, List.getElem?_cons_succ, cell_blk hE.bp, Nat.zero_add, h3, hwm, hwh, hvc.iad .i64 hsh, Nat.mul_one, hs6]
    replace hv5 := hv5.chg (Chg.put c H5 cs6) (by omega : b ≠ c)
    replace hE := hE.chg hs ht (Chg.put c H5 cs6) (by omega) hcp hcr
    have hn6 : (H5.put c cs6).next = H5.next := rfl
    generalize H5.put c cs6 = H6 at hv5 hv6 hE hn6 ⊢
    have hvl : VecI H6 b s1 (low.set sd (low[sd] + n * 2 ^ kn)) := by
      unfold VecI
      rw [List.length_set, List.map_set]
      exact hv5
    have hvh : VecI H6 c t1 (high.set sd (high[sd] + n * 2 ^ kn)) := by
      unfold VecI
      rw [List.length_set, List.map_set]
      exact hv6
    have hmir : shiB kn sd n low high = makeB kn (low.set sd (low[sd] + n * 2 ^ kn)) (high.set sd (high[sd] + n * 2 ^ kn)) := by
      unfold shiB
      rw [if_pos hg]
      simp [hsl, hsh]
    have hl6 := hE.lt
    refine s_reg ?_
    simp only [o_cont, o_callT, callV_fn, o_pure, o_eff, o_callF, o_callN, o_guard, gk_tt, gk_ff, gk_tf, gk_ft, o_nil, POp.ev, Opd.ev, EOp.ev, env0, gu, gv, setD, resV, List.set, List.map, List.map_nil, List.map_cons, Option.map_none, Option.map_some, Option.some.injEq, exists_eq_left', pickV, binV, convV, load1V, max2V, min2V, nilchkV, unV, boolEq, isNilV, fadV, extV, slenV, ne_eq, not_true_eq_false, if_false, if_true, ite_true, ite_false, Bool.false_eq_true, Bool.true_eq_false, beq_true, beq_false, beq_self_eq_true, Bool.not_true, Bool.not_false, reduceCtorEq, List.getElem?_toArray, List.getElem?_cons_zero, List.getElem?_cons_succ, cell_blk hE.bp, Nat.zero_add]
    refine (bxMake_ok lim kn s1 t1 _ _ H6 (by omega) hvl.sl hvh.sl (by simp; omega) (by simp; omega) (by omega) ((InR.of_small g6).set _ (by omega)) ((InR.of_small g7).set _ (by omega))).mono ?_
    rintro v H7 ⟨hR, hx7⟩
    replace hE := hE.mono hx7
    obtain ⟨x, y, z, rfl⟩ := hR.form
    simp only [o_cont, o_callT, callV_fn, o_pure, o_eff, o_callF, o_callN, o_guard, gk_tt, gk_ff, gk_tf, gk_ft, o_nil, POp.ev, Opd.ev, EOp.ev, env0, gu, gv, setD, resV, List.set, List.map, List.map_nil, List.map_cons, Option.map_none, Option.map_some, Option.some.injEq, exists_eq_left', pickV, binV, convV, load1V, max2V, min2V, nilchkV, unV, boolEq, isNilV, fadV, extV, slenV, ne_eq, not_true_eq_false, if_false, if_true, ite_true, ite_false, Bool.false_eq_true, Bool.true_eq_false, beq_true, beq_false, beq_self_eq_true, Bool.not_true, Bool.not_false, reduceCtorEq, List.getElem?_toArray, List.getElem?_cons_zero, List.getElem?_cons_succ, store3 (lim := lim) (b := r) (by omega) hE.br]
    refine s_ret1 ?_
    simp +decide only [p_seq_normal, p_seq_ret, p_seq_exit, p_block_normal, p_block_ret, p_block_exit, p_fin_ret, p_fin_normal, reduceIte, Nat.reduceEqDiff, resV, resOne, resL, gv, Option.some.injEq, exists_eq_left', Option.bind_some, Option.map_some, List.getD_cons_zero, List.getD_cons_succ, load3 (put_same _ _ _)]
    refine ⟨?_, Chg.ext hE.ext (Chg.put _ _ _) (by omega)⟩
    rw [hmir]
    exact (hR.put (by omega) _).low (by omega)
theorem iShift_ok (lim : Nat) (v : Value) (k side n : Int) (low high : List Int) (H : AHeap) (hl : lim ≤ H.next) (hv : BoxV H v k low high) (hn : low.length ≤ 100000000) (hn2 : high.length ≤ 100000000) :
    ACalls Try.prog lim n_impl_ShiftBox [v, .int .i64 side, .int .i64 n] H fun v H' => BoxR H.next H' v (shiB k side n low high).1 (shiB k side n low high).2.1 (shiB k side n low high).2.2.1 (shiB k side n low high).2.2.2 ∧ Ext H H' := by
  obtain ⟨s, t, rfl, hs, ht⟩ := hv
  refine is_impl_ShiftBox.go rfl ?_
  unfold c_impl_ShiftBox
  refine s_reg ?_
  simp only [o_cont, o_callT, callV_fn, o_pure, o_eff, o_callF, o_callN, o_guard, gk_tt, gk_ff, gk_tf, gk_ft, o_nil, POp.ev, Opd.ev, EOp.ev, env0, gu, gv, setD, resV, List.set, List.map, List.map_nil, List.map_cons, Option.map_none, Option.map_some, Option.some.injEq, exists_eq_left', pickV, binV, convV, load1V, max2V, min2V, nilchkV, unV, boolEq, isNilV, fadV, extV, slenV, ne_eq, not_true_eq_false, if_false, if_true, ite_true, ite_false, Bool.false_eq_true, Bool.true_eq_false, beq_true, beq_false, beq_self_eq_true, Bool.not_true, Bool.not_false, reduceCtorEq, List.getElem?_toArray, List.getElem?_cons_zero, List.getElem?_cons_succ, boxH, cellsV]
  have hE := BxE.mk' (k := k) hs ht
  have hnx : (H.alloc [.int .i64 k, s, t]).next = H.next + 1 := rfl
  rw [hnx]
  generalize (H.alloc [.int .i64 k, s, t]).alloc [.int .i64 0, .slice none 0 0, .slice none 0 0] = H2 at hE ⊢
  generalize H.next + 1 = r at hE ⊢
  have hg0 := hE.ge
  have hl0 := hE.lt
  refine s_test_same (!(goodB k low high && inS side low && inN n)) ?_ (fun hg => ?_) (fun hg => ?_)
  · simp only [o_cont, o_callT, callV_fn, o_pure, o_eff, o_callF, o_callN, o_guard, gk_tt, gk_ff, gk_tf, gk_ft, o_nil, POp.ev, Opd.ev, EOp.ev, env0, gu, gv, setD, resV, List.set, List.map, List.map_nil, List.map_cons, Option.map_none, Option.map_some, Option.some.injEq, exists_eq_left', pickV, binV, convV, load1V, max2V, min2V, nilchkV, unV, boolEq, isNilV, fadV, extV, slenV, ne_eq, not_true_eq_false, if_false, if_true, ite_true, ite_false, Bool.false_eq_true, Bool.true_eq_false, beq_true, beq_false, beq_self_eq_true, Bool.not_true, Bool.not_false, reduceCtorEq, List.getElem?_toArray, List.getElem?_cons_zero, List.getElem?_cons_succ]
    refine (isBox_ok _ hE.boxP (by omega) (by omega)).eq ?_
    cases hgd : goodB k low high
    · simp only [o_cont, o_callT, callV_fn, o_pure, o_eff, o_callF, o_callN, o_guard, gk_tt, gk_ff, gk_tf, gk_ft, o_nil, POp.ev, Opd.ev, EOp.ev, env0, gu, gv, setD, resV, List.set, List.map, List.map_nil, List.map_cons, Option.map_none, Option.map_some, Option.some.injEq, exists_eq_left', pickV, binV, convV, load1V, max2V, min2V, nilchkV, unV, boolEq, isNilV, fadV, extV, slenV, ne_eq, not_true_eq_false, if_false, if_true, ite_true, ite_false, Bool.false_eq_true, Bool.true_eq_false, beq_true, beq_false, beq_self_eq_true, Bool.not_true, Bool.not_false, reduceCtorEq, List.getElem?_toArray, List.getElem?_cons_zero, List.getElem?_cons_succ]
      simp
    · simp only [o_cont, o_callT, callV_fn, o_pure, o_eff, o_callF, o_callN, o_guard, gk_tt, gk_ff, gk_tf, gk_ft, o_nil, POp.ev, Opd.ev, EOp.ev, env0, gu, gv, setD, resV, List.set, List.map, List.map_nil, List.map_cons, Option.map_none, Option.map_some, Option.some.injEq, exists_eq_left', pickV, binV, convV, load1V, max2V, min2V, nilchkV, unV, boolEq, isNilV, fadV, extV, slenV, ne_eq, not_true_eq_false, if_false, if_true, ite_true, ite_false, Bool.false_eq_true, Bool.true_eq_false, beq_true, beq_false, beq_self_eq_true, Bool.not_true, Bool.not_false, reduceCtorEq, List.getElem?_toArray, List.getElem?_cons_zero, List.getElem?_cons_succ]
      refine (has_ok _ _ hE.boxP (by omega)).eq ?_
      cases hsd : inS side low
      · simp only [inS] at hsd
        simp only [o_cont, o_callT, callV_fn, o_pure, o_eff, o_callF, o_callN, o_guard, gk_tt, gk_ff, gk_tf, gk_ft, o_nil, POp.ev, Opd.ev, EOp.ev, env0, gu, gv, setD, resV, List.set, List.map, List.map_nil, List.map_cons, Option.map_none, Option.map_some, Option.some.injEq, exists_eq_left', pickV, binV, convV, load1V, max2V, min2V, nilchkV, unV, boolEq, isNilV, fadV, extV, slenV, ne_eq, not_true_eq_false, if_false, if_true, ite_true, ite_false, Bool.false_eq_true, Bool.true_eq_false, beq_true, beq_false, beq_self_eq_true, Bool.not_true, Bool.not_false, reduceCtorEq, List.getElem?_toArray, List.getElem?_cons_zero, List.getElem?_cons_succ, hsd]
        simp
      · simp only [inS] at hsd
        simp only [o_cont, o_callT, callV_fn, o_pure, o_eff, o_callF, o_callN, o_guard, gk_tt, gk_ff, gk_tf, gk_ft, o_nil, POp.ev, Opd.ev, EOp.ev, env0, gu, gv, setD, resV, List.set, List.map, List.map_nil, List.map_cons, Option.map_none, Option.map_some, Option.some.injEq, exists_eq_left', pickV, binV, convV, load1V, max2V, min2V, nilchkV, unV, boolEq, isNilV, fadV, extV, slenV, ne_eq, not_true_eq_false, if_false, if_true, ite_true, ite_false, Bool.false_eq_true, Bool.true_eq_false, beq_true, beq_false, beq_self_eq_true, Bool.not_true, Bool.not_false, reduceCtorEq, List.getElem?_toArray, List.getElem?_cons_zero, List.getElem?_cons_succ, hsd]
        refine (inside_ok _ _ _ _ _).eq ?_
        simp only [o_cont, o_callT, callV_fn, o_pure, o_eff, o_callF, o_callN, o_guard, gk_tt, gk_ff, gk_tf, gk_ft, o_nil, POp.ev, Opd.ev, EOp.ev, env0, gu, gv, setD, resV, List.set, List.map, List.map_nil, List.map_cons, Option.map_none, Option.map_some, Option.some.injEq, exists_eq_left', pickV, binV, convV, load1V, max2V, min2V, nilchkV, unV, boolEq, isNilV, fadV, extV, slenV, ne_eq, not_true_eq_false, if_false, if_true, ite_true, ite_false, Bool.false_eq_true, Bool.true_eq_false, beq_true, beq_false, beq_self_eq_true, Bool.not_true, Bool.not_false, reduceCtorEq, List.getElem?_toArray, List.getElem?_cons_zero, List.getElem?_cons_succ]
        simp [inN]
  · simp only [Bool.not_eq_true'] at hg
    refine s_reg ?_
    simp only [o_cont, o_callT, callV_fn, o_pure, o_eff, o_callF, o_callN, o_guard, gk_tt, gk_ff, gk_tf, gk_ft, o_nil, POp.ev, Opd.ev, EOp.ev, env0, gu, gv, setD, resV, List.set, List.map, List.map_nil, List.map_cons, Option.map_none, Option.map_some, Option.some.injEq, exists_eq_left', pickV, binV, convV, load1V, max2V, min2V, nilchkV, unV, boolEq, isNilV, fadV, extV, slenV, ne_eq, not_true_eq_false, if_false, if_true, ite_true, ite_false, Bool.false_eq_true, Bool.true_eq_false, beq_true, beq_false, beq_self_eq_true, Bool.not_true, Bool.not_false, reduceCtorEq, List.getElem?_toArray, List.getElem?_cons_zero, List.getElem?_cons_succ, zero_box, store3 (lim := lim) (b := r) (by omega) hE.br]
    refine s_ret1 ?_
    simp +decide only [p_seq_normal, p_seq_ret, p_seq_exit, p_block_normal, p_block_ret, p_block_exit, p_fin_ret, p_fin_normal, reduceIte, Nat.reduceEqDiff, resV, resOne, resL, gv, Option.some.injEq, exists_eq_left', Option.bind_some, Option.map_some, List.getD_cons_zero, List.getD_cons_succ, load3 (put_same _ _ _)]
    refine ⟨.inl ⟨?_, rfl⟩, Chg.ext hE.ext (Chg.put _ _ _) (by omega)⟩
    simp [shiB, hg]
  · simp only [Bool.not_eq_false'] at hg
    have hgd : goodB k low high = true := by simp only [Bool.and_eq_true] at hg; exact hg.1.1
    have hsd : inS side low = true := by simp only [Bool.and_eq_true] at hg; exact hg.1.2
    have hnn : -8 ≤ n ∧ n ≤ 8 := by simp only [Bool.and_eq_true, inN, decide_eq_true_eq] at hg; exact hg.2
    obtain ⟨g1, g2, g3, g4, g5, g6, g7⟩ := goodB_small hgd
    simp only [inS, Bool.and_eq_true, decide_eq_true_eq] at hsd
    obtain ⟨sd, rfl⟩ : ∃ n : Nat, side = n := ⟨side.toNat, by omega⟩
    have hsl : sd < low.length := by omega
    have hsh : sd < high.length := by omega
    refine s_skip1 ?_
    simp +decide only [p_seq_normal, p_seq_ret, p_seq_exit, p_block_normal, p_block_ret, p_block_exit, p_fin_ret, p_fin_normal, reduceIte, Nat.reduceEqDiff, resV, resOne, resL, gv, Option.some.injEq, exists_eq_left', Option.bind_some, Option.map_some, List.getD_cons_zero, List.getD_cons_succ]
    refine s_reg ?_
    simp only [o_cont, o_callT, callV_fn, o_pure, o_eff, o_callF, o_callN, o_guard, gk_tt, gk_ff, gk_tf, gk_ft, o_nil, POp.ev, Opd.ev, EOp.ev, env0, gu, gv, setD, resV, List.set, List.map, List.map_nil, List.map_cons, Option.map_none, Option.map_some, Option.some.injEq, exists_eq_left', pickV, binV, convV, load1V, max2V, min2V, nilchkV, unV, boolEq, isNilV, fadV, extV, slenV, ne_eq, not_true_eq_false, if_false, if_true, ite_true, ite_false, Bool.false_eq_true, Bool.true_eq_false, beq_true, beq_false, beq_self_eq_true, Bool.not_true, Bool.not_false, reduceCtorEq, List.getElem?_toArray, List.getElem?_cons_zero, List.getElem?_cons_succ, cell_blk hE.bp, Nat.zero_add]
    have hg1 := hE.lt
    refine (clone_ok H2.next _ _ _ (Nat.le_refl _) hE.sl (by omega)).use ?_
    rintro s1 H3 ⟨b, hb1, hb2, hvb, hx2⟩ _
    replace hb2 : b < H3.next := (hvb.blk (by omega)).elim fun _ h => h.2
    replace hE := hE.mono hx2
    simp only [o_cont, o_callT, callV_fn, o_pure, o_eff, o_callF, o_callN, o_guard, gk_tt, gk_ff, gk_tf, gk_ft, o_nil, POp.ev, Opd.ev, EOp.ev, env0, gu, gv, setD, resV, List.set, List.map, List.map_nil, List.map_cons, Option.map_none, Option.map_some, Option.some.injEq, exists_eq_left', pickV, binV, convV, load1V, max2V, min2V, nilchkV, unV, boolEq, isNilV, fadV, extV, slenV, ne_eq, not_true_eq_false, if_false, if_true, ite_true, ite_false, Bool.false_eq_true, Bool.true_eq_false, beq_true, beq_false, beq_self_eq_true, Bool.not_true, Bool.not_false, reduceCtorEq, List.getElem?_toArray, List.getElem?_cons_zero, List.getElem?_cons_succ]
    have hn3 := hx2.next
    refine (clone_ok lim _ _ _ (by omega) hE.sh (by omega)).mono ?_
    rintro t1 H4 ⟨c, hc1, hc2, hvc, hx3⟩
    replace hc2 : c < H4.next := (hvc.blk (by omega)).elim fun _ h => h.2
    replace hE := hE.mono hx3
    replace hvb := hvb.ext hx3
    have hn4 := hx3.next
    simp only [o_cont, o_callT, callV_fn, o_pure, o_eff, o_callF, o_callN, o_guard, gk_tt, gk_ff, gk_tf, gk_ft, o_nil, POp.ev, Opd.ev, EOp.ev, env0, gu, gv, setD, resV, List.set, List.map, List.map_nil, List.map_cons, Option.map_none, Option.map_some, Option.some.injEq, exists_eq_left', pickV, binV, convV, load1V, max2V, min2V, nilchkV, unV, boolEq, isNilV, fadV, extV, slenV, ne_eq, not_true_eq_false, if_false, if_true, ite_true, ite_false, Bool.false_eq_true, Bool.true_eq_false, beq_true, beq_false, beq_self_eq_true, Bool.not_true, Bool.not_false, reduceCtorEq, List.getElem?_toArray, List.getElem?_cons_zero, List.getElem?_cons_succ]
    have hbp : H.next ≠ b := by omega
    have hcp : H.next ≠ c := by omega
    have hbr : r ≠ b := by omega
    have hcr : r ≠ c := by omega
    obtain ⟨kn, rfl⟩ : ∃ kn : Nat, k = kn := ⟨k.toNat, by omega⟩
    have hkn : kn ≤ 8 := by omega
    have hss := shift_small hkn hnn
    have hgh := g7 _ (List.getElem_mem hsh)
    have hgl := g6 _ (List.getElem_mem hsl)
    have h3 : H4.cell b sd = some (.int .i64 low[sd]) := hvb.cell (by simp [hsl])
    have hwm : IntKind.i64.wrap (n * 2 ^ kn) = n * 2 ^ kn := by rw [IntKind.wrap_i64]; omega
    have hwl : IntKind.i64.wrap (low[sd] + n * 2 ^ kn) = low[sd] + n * 2 ^ kn := by rw [IntKind.wrap_i64]; omega
    have hwh : IntKind.i64.wrap (high[sd] + n * 2 ^ kn) = high[sd] + n * 2 ^ kn := by rw [IntKind.wrap_i64]; omega
    have hmin : min (kn : Int).toNat IntKind.i64.bits = kn := by have hb : IntKind.i64.bits = 64 := rfl; rw [hb]; omega
    have hneg : ¬ ((kn : Int) < 0) := by omega
    have hpk : 2 ^ kn = (2 : Int) ^ kn := rfl
    obtain ⟨cs5, hs5, hv5⟩ := hvb.put1 (lim := lim) (i := sd) (by omega) (cells_int .i64 (low[sd] + n * 2 ^ kn)) (by omega)
    refine s_reg ?_
    simp only [o_cont, o_callT, callV_fn, o_pure, o_eff, o_callF, o_callN, o_guard, gk_tt, gk_ff, gk_tf, gk_ft, o_nil, POp.ev, Opd.ev, EOp.ev, env0, gu, gv, setD, resV, List.set, List.map, List.map_nil, List.map_cons, Option.map_none, Option.map_some, Option.some.injEq, exists_eq_left', pickV, binV, convV, load1V, max2V, min2V, nilchkV, unV, boolEq, isNilV, fadV, extV, slenV, ne_eq, not_true_eq_false, if_false, if_true, ite_true, ite_false, Bool.false_eq_true, Bool.true_eq_false, beq_true, beq_false, beq_self_eq_true, Bool.not_true, Bool.not_false, reduceCtorEq, List.getElem?_toArray, List.getElem?_cons_zero, List.getElem?_cons_succ, cell_blk hE.bp, Nat.zero_add, h3, if_neg hneg, hmin, hwm, hwl, hvb.iad .i64 hsl, Nat.mul_one, hs5]
    replace hvc := hvc.chg (Chg.put b H4 cs5) (by omega : c ≠ b)
    replace hE := hE.chg hs ht (Chg.put b H4 cs5) (by omega) hbp hbr
    have hn5 : (H4.put b cs5).next = H4.next := rfl
    generalize H4.put b cs5 = H5 at hv5 hvc hE hn5 ⊢
    have h3 : H5.cell c sd = some (.int .i64 high[sd]) := hvc.cell (by simp [hsh])
    obtain ⟨cs6, hs6, hv6⟩ := hvc.put1 (lim := lim) (i := sd) (by omega) (cells_int .i64 (high[sd] + n * 2 ^ kn)) (by omega)
    refine s_reg ?_
    simp only [o_cont, o_callT, callV_fn, o_pure, o_eff, o_callF, o_callN, o_guard, gk_tt, gk_ff, gk_tf, gk_ft, o_nil, POp.ev, Opd.ev, EOp.ev, env0, gu, gv, setD, resV, List.set, List.map, List.map_nil, List.map_cons, Option.map_none, Option.map_some, Option.some.injEq, exists_eq_left', pickV, binV, convV, load1V, max2V, min2V, nilchkV, unV, boolEq, isNilV, fadV, extV, slenV, ne_eq, not_true_eq_false, if_false, if_true, ite_true, ite_false, Bool.false_eq_true, Bool.true_eq_false, beq_true, beq_false, beq_self_eq_true, Bool.not_true, Bool.not_false, reduceCtorEq, List.getElem?_toArray, List.getElem?_cons_zero, List.getElem?_cons_succ, cell_blk hE.bp, Nat.zero_add, h3, if_neg hneg, hmin, hwm, hwh, hvc.iad .i64 hsh, Nat.mul_one, hs6]
    replace hv5 := hv5.chg (Chg.put c H5 cs6) (by omega : b ≠ c)
    replace hE := hE.chg hs ht (Chg.put c H5 cs6) (by omega) hcp hcr
    have hn6 : (H5.put c cs6).next = H5.next := rfl
    generalize H5.put c cs6 = H6 at hv5 hv6 hE hn6 ⊢
    have hvl : VecI H6 b s1 (low.set sd (low[sd] + n * 2 ^ kn)) := by
      unfold VecI
      rw [List.length_set, List.map_set]
      exact hv5
    have hvh : VecI H6 c t1 (high.set sd (high[sd] + n * 2 ^ kn)) := by
      unfold VecI
      rw [List.length_set, List.map_set]
      exact hv6
    have hmir : shiB kn sd n low high = makeB kn (low.set sd (low[sd] + n * 2 ^ kn)) (high.set sd (high[sd] + n * 2 ^ kn)) := by
      unfold shiB
      rw [if_pos hg]
      simp [hsl, hsh]
    have hl6 := hE.lt
    refine s_reg ?_
    simp only [o_cont, o_callT, callV_fn, o_pure, o_eff, o_callF, o_callN, o_guard, gk_tt, gk_ff, gk_tf, gk_ft, o_nil, POp.ev, Opd.ev, EOp.ev, env0, gu, gv, setD, resV, List.set, List.map, List.map_nil, List.map_cons, Option.map_none, Option.map_some, Option.some.injEq, exists_eq_left', pickV, binV, convV, load1V, max2V, min2V, nilchkV, unV, boolEq, isNilV, fadV, extV, slenV, ne_eq, not_true_eq_false, if_false, if_true, ite_true, ite_false, Bool.false_eq_true, Bool.true_eq_false, beq_true, beq_false, beq_self_eq_true, Bool.not_true, Bool.not_false, reduceCtorEq, List.getElem?_toArray, List.getElem?_cons_zero, List.getElem?_cons_succ, cell_blk hE.bp, Nat.zero_add]
    refine (boxOf_ok lim kn s1 t1 _ _ H6 (by omega) hvl.sl hvh.sl (by simp; omega) (by simp; omega) (by simp; omega) (by omega) ((InR.of_small g6).set _ (by omega)) ((InR.of_small g7).set _ (by omega))).mono ?_
    rintro v H7 ⟨hR, hx7⟩
    replace hE := hE.mono hx7
    obtain ⟨x, y, z, rfl⟩ := hR.form
    simp only [o_cont, o_callT, callV_fn, o_pure, o_eff, o_callF, o_callN, o_guard, gk_tt, gk_ff, gk_tf, gk_ft, o_nil, POp.ev, Opd.ev, EOp.ev, env0, gu, gv, setD, resV, List.set, List.map, List.map_nil, List.map_cons, Option.map_none, Option.map_some, Option.some.injEq, exists_eq_left', pickV, binV, convV, load1V, max2V, min2V, nilchkV, unV, boolEq, isNilV, fadV, extV, slenV, ne_eq, not_true_eq_false, if_false, if_true, ite_true, ite_false, Bool.false_eq_true, Bool.true_eq_false, beq_true, beq_false, beq_self_eq_true, Bool.not_true, Bool.not_false, reduceCtorEq, List.getElem?_toArray, List.getElem?_cons_zero, List.getElem?_cons_succ, store3 (lim := lim) (b := r) (by omega) hE.br]
    refine s_ret1 ?_
    simp +decide only [p_seq_normal, p_seq_ret, p_seq_exit, p_block_normal, p_block_ret, p_block_exit, p_fin_ret, p_fin_normal, reduceIte, Nat.reduceEqDiff, resV, resOne, resL, gv, Option.some.injEq, exists_eq_left', Option.bind_some, Option.map_some, List.getD_cons_zero, List.getD_cons_succ, load3 (put_same _ _ _)]
    refine ⟨?_, Chg.ext hE.ext (Chg.put _ _ _) (by omega)⟩
    rw [hmir]
    exact (hR.put (by omega) _).low (by omega)
end Go.Proofs.Ytfnjjkljpegoeaa
