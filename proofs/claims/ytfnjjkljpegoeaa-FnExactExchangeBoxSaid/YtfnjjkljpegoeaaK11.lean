/- FnExactMirrorBox, the implementation's function: no condition beyond stated lengths. -/
import Derived.Test.YtfnjjkljpegoeaaK10
namespace Go.Proofs.Ytfnjjkljpegoeaa
open Go.Ab
set_option linter.unusedSimpArgs false
set_option linter.unusedVariables false

theorem iMirror_ok (lim : Nat) (v : Value) (k side : Int) (low high : List Int) (H : AHeap) (hl : lim ≤ H.next) (hv : BoxV H v k low high) (hn : low.length ≤ 100000000) (hn2 : high.length ≤ 100000000) :
    ACalls Try.prog lim n_impl_MirrorBox [v, .int .i64 side] H fun v H' => BoxR H.next H' v (mirB k side low high).1 (mirB k side low high).2.1 (mirB k side low high).2.2.1 (mirB k side low high).2.2.2 ∧ Ext H H' := by
  obtain ⟨s, t, rfl, hs, ht⟩ := hv
  refine is_impl_MirrorBox.go rfl ?_
  unfold c_impl_MirrorBox
  refine s_reg ?_
  simp only [o_cont, o_callT, callV_fn, o_pure, o_eff, o_callF, o_callN, o_guard, gk_tt, gk_ff, gk_tf, gk_ft, gk_u, t_op, t_alt, t_nil, o_nil, POp.ev, Opd.ev, EOp.ev, env0, gu, gv, setD, resV, List.set, List.map, List.map_nil, List.map_cons, Option.map_none, Option.map_some, Option.some.injEq, exists_eq_left', pickV, binV, convV, load1V, max2V, min2V, nilchkV, unV, boolEq, isNilV, fadV, extV, slenV, ne_eq, not_true_eq_false, if_false, if_true, ite_true, ite_false, Bool.false_eq_true, Bool.true_eq_false, beq_true, beq_false, beq_self_eq_true, Bool.not_true, Bool.not_false, reduceCtorEq, List.getElem?_toArray, List.getElem?_cons_zero, List.getElem?_cons_succ, boxH, cellsV]
  have hE := BxE.mk' (k := k) hs ht
  have hnx : (H.alloc [.int .i64 k, s, t]).next = H.next + 1 := rfl
  rw [hnx]
  generalize (H.alloc [.int .i64 k, s, t]).alloc [.int .i64 0, .slice none 0 0, .slice none 0 0] = H2 at hE ⊢
  generalize H.next + 1 = r at hE ⊢
  have hg0 := hE.ge
  have hl0 := hE.lt
  refine s_test_same (!(goodB k low high && inS side low)) ?_ (fun hg => ?_) (fun hg => ?_)
  · simp only [o_cont, o_callT, callV_fn, o_pure, o_eff, o_callF, o_callN, o_guard, gk_tt, gk_ff, gk_tf, gk_ft, gk_u, t_op, t_alt, t_nil, o_nil, POp.ev, Opd.ev, EOp.ev, env0, gu, gv, setD, resV, List.set, List.map, List.map_nil, List.map_cons, Option.map_none, Option.map_some, Option.some.injEq, exists_eq_left', pickV, binV, convV, load1V, max2V, min2V, nilchkV, unV, boolEq, isNilV, fadV, extV, slenV, ne_eq, not_true_eq_false, if_false, if_true, ite_true, ite_false, Bool.false_eq_true, Bool.true_eq_false, beq_true, beq_false, beq_self_eq_true, Bool.not_true, Bool.not_false, reduceCtorEq, List.getElem?_toArray, List.getElem?_cons_zero, List.getElem?_cons_succ]
    refine (isBox_ok _ hE.boxP (by omega) (by omega)).eq ?_
    cases hgd : goodB k low high
    · simp only [o_cont, o_callT, callV_fn, o_pure, o_eff, o_callF, o_callN, o_guard, gk_tt, gk_ff, gk_tf, gk_ft, gk_u, t_op, t_alt, t_nil, o_nil, POp.ev, Opd.ev, EOp.ev, env0, gu, gv, setD, resV, List.set, List.map, List.map_nil, List.map_cons, Option.map_none, Option.map_some, Option.some.injEq, exists_eq_left', pickV, binV, convV, load1V, max2V, min2V, nilchkV, unV, boolEq, isNilV, fadV, extV, slenV, ne_eq, not_true_eq_false, if_false, if_true, ite_true, ite_false, Bool.false_eq_true, Bool.true_eq_false, beq_true, beq_false, beq_self_eq_true, Bool.not_true, Bool.not_false, reduceCtorEq, List.getElem?_toArray, List.getElem?_cons_zero, List.getElem?_cons_succ]
      simp
    · simp only [o_cont, o_callT, callV_fn, o_pure, o_eff, o_callF, o_callN, o_guard, gk_tt, gk_ff, gk_tf, gk_ft, gk_u, t_op, t_alt, t_nil, o_nil, POp.ev, Opd.ev, EOp.ev, env0, gu, gv, setD, resV, List.set, List.map, List.map_nil, List.map_cons, Option.map_none, Option.map_some, Option.some.injEq, exists_eq_left', pickV, binV, convV, load1V, max2V, min2V, nilchkV, unV, boolEq, isNilV, fadV, extV, slenV, ne_eq, not_true_eq_false, if_false, if_true, ite_true, ite_false, Bool.false_eq_true, Bool.true_eq_false, beq_true, beq_false, beq_self_eq_true, Bool.not_true, Bool.not_false, reduceCtorEq, List.getElem?_toArray, List.getElem?_cons_zero, List.getElem?_cons_succ]
      refine (has_ok _ _ hE.boxP (by omega)).eq ?_
      simp only [o_cont, o_callT, callV_fn, o_pure, o_eff, o_callF, o_callN, o_guard, gk_tt, gk_ff, gk_tf, gk_ft, gk_u, t_op, t_alt, t_nil, o_nil, POp.ev, Opd.ev, EOp.ev, env0, gu, gv, setD, resV, List.set, List.map, List.map_nil, List.map_cons, Option.map_none, Option.map_some, Option.some.injEq, exists_eq_left', pickV, binV, convV, load1V, max2V, min2V, nilchkV, unV, boolEq, isNilV, fadV, extV, slenV, ne_eq, not_true_eq_false, if_false, if_true, ite_true, ite_false, Bool.false_eq_true, Bool.true_eq_false, beq_true, beq_false, beq_self_eq_true, Bool.not_true, Bool.not_false, reduceCtorEq, List.getElem?_toArray, List.getElem?_cons_zero, List.getElem?_cons_succ]
      simp [inS]
  · simp only [Bool.not_eq_true'] at hg
    refine s_reg ?_
    simp only [o_cont, o_callT, callV_fn, o_pure, o_eff, o_callF, o_callN, o_guard, gk_tt, gk_ff, gk_tf, gk_ft, gk_u, t_op, t_alt, t_nil, o_nil, POp.ev, Opd.ev, EOp.ev, env0, gu, gv, setD, resV, List.set, List.map, List.map_nil, List.map_cons, Option.map_none, Option.map_some, Option.some.injEq, exists_eq_left', pickV, binV, convV, load1V, max2V, min2V, nilchkV, unV, boolEq, isNilV, fadV, extV, slenV, ne_eq, not_true_eq_false, if_false, if_true, ite_true, ite_false, Bool.false_eq_true, Bool.true_eq_false, beq_true, beq_false, beq_self_eq_true, Bool.not_true, Bool.not_false, reduceCtorEq, List.getElem?_toArray, List.getElem?_cons_zero, List.getElem?_cons_succ, zero_box, store3 (lim := lim) (b := r) (by omega) hE.br]
    refine s_ret1 ?_
    simp +decide only [p_seq_normal, p_seq_ret, p_seq_exit, p_block_normal, p_block_ret, p_block_exit, p_fin_ret, p_fin_normal, reduceIte, Nat.reduceEqDiff, resV, resOne, resL, gv, Option.some.injEq, exists_eq_left', Option.bind_some, Option.map_some, List.getD_cons_zero, List.getD_cons_succ, load3 (put_same _ _ _)]
    refine ⟨.inl ⟨?_, rfl⟩, Chg.ext hE.ext (Chg.put _ _ _) (by omega)⟩
    simp [mirB, hg]
  · simp only [Bool.not_eq_false'] at hg
    have hgd : goodB k low high = true := by simp only [Bool.and_eq_true] at hg; exact hg.1
    have hsd : inS side low = true := by simp only [Bool.and_eq_true] at hg; exact hg.2
    obtain ⟨g1, g2, g3, g4, g5, g6, g7⟩ := goodB_small hgd
    simp only [inS, Bool.and_eq_true, decide_eq_true_eq] at hsd
    obtain ⟨sd, rfl⟩ : ∃ n : Nat, side = n := ⟨side.toNat, by omega⟩
    have hsl : sd < low.length := by omega
    have hsh : sd < high.length := by omega
    refine s_skip1 ?_
    simp +decide only [p_seq_normal, p_seq_ret, p_seq_exit, p_block_normal, p_block_ret, p_block_exit, p_fin_ret, p_fin_normal, reduceIte, Nat.reduceEqDiff, resV, resOne, resL, gv, Option.some.injEq, exists_eq_left', Option.bind_some, Option.map_some, List.getD_cons_zero, List.getD_cons_succ]
    refine s_reg ?_
    simp only [o_cont, o_callT, callV_fn, o_pure, o_eff, o_callF, o_callN, o_guard, gk_tt, gk_ff, gk_tf, gk_ft, gk_u, t_op, t_alt, t_nil, o_nil, POp.ev, Opd.ev, EOp.ev, env0, gu, gv, setD, resV, List.set, List.map, List.map_nil, List.map_cons, Option.map_none, Option.map_some, Option.some.injEq, exists_eq_left', pickV, binV, convV, load1V, max2V, min2V, nilchkV, unV, boolEq, isNilV, fadV, extV, slenV, ne_eq, not_true_eq_false, if_false, if_true, ite_true, ite_false, Bool.false_eq_true, Bool.true_eq_false, beq_true, beq_false, beq_self_eq_true, Bool.not_true, Bool.not_false, reduceCtorEq, List.getElem?_toArray, List.getElem?_cons_zero, List.getElem?_cons_succ, cell_blk hE.bp, Nat.zero_add]
    have hg1 := hE.lt
    refine (clone_ok H2.next _ _ _ (Nat.le_refl _) hE.sl (by omega)).use ?_
    rintro s1 H3 ⟨b, hb1, hb2, hvb, hx2⟩ _
    replace hb2 : b < H3.next := (hvb.blk (by omega)).elim fun _ h => h.2
    replace hE := hE.mono hx2
    simp only [o_cont, o_callT, callV_fn, o_pure, o_eff, o_callF, o_callN, o_guard, gk_tt, gk_ff, gk_tf, gk_ft, gk_u, t_op, t_alt, t_nil, o_nil, POp.ev, Opd.ev, EOp.ev, env0, gu, gv, setD, resV, List.set, List.map, List.map_nil, List.map_cons, Option.map_none, Option.map_some, Option.some.injEq, exists_eq_left', pickV, binV, convV, load1V, max2V, min2V, nilchkV, unV, boolEq, isNilV, fadV, extV, slenV, ne_eq, not_true_eq_false, if_false, if_true, ite_true, ite_false, Bool.false_eq_true, Bool.true_eq_false, beq_true, beq_false, beq_self_eq_true, Bool.not_true, Bool.not_false, reduceCtorEq, List.getElem?_toArray, List.getElem?_cons_zero, List.getElem?_cons_succ]
    have hn3 := hx2.next
    refine (clone_ok lim _ _ _ (by omega) hE.sh (by omega)).mono ?_
    rintro t1 H4 ⟨c, hc1, hc2, hvc, hx3⟩
    replace hc2 : c < H4.next := (hvc.blk (by omega)).elim fun _ h => h.2
    replace hE := hE.mono hx3
    replace hvb := hvb.ext hx3
    have hn4 := hx3.next
    simp only [o_cont, o_callT, callV_fn, o_pure, o_eff, o_callF, o_callN, o_guard, gk_tt, gk_ff, gk_tf, gk_ft, gk_u, t_op, t_alt, t_nil, o_nil, POp.ev, Opd.ev, EOp.ev, env0, gu, gv, setD, resV, List.set, List.map, List.map_nil, List.map_cons, Option.map_none, Option.map_some, Option.some.injEq, exists_eq_left', pickV, binV, convV, load1V, max2V, min2V, nilchkV, unV, boolEq, isNilV, fadV, extV, slenV, ne_eq, not_true_eq_false, if_false, if_true, ite_true, ite_false, Bool.false_eq_true, Bool.true_eq_false, beq_true, beq_false, beq_self_eq_true, Bool.not_true, Bool.not_false, reduceCtorEq, List.getElem?_toArray, List.getElem?_cons_zero, List.getElem?_cons_succ]
    have hbp : H.next ≠ b := by omega
    have hcp : H.next ≠ c := by omega
    have hbr : r ≠ b := by omega
    have hcr : r ≠ c := by omega
    obtain ⟨bb', o', h1', h2', h3'⟩ := SlI.get hE.sh hsh
    obtain ⟨bb, o, h1, h2, h3⟩ := SlI.get hE.sl hsl
    have hgh := g7 _ (List.getElem_mem hsh)
    have hgl := g6 _ (List.getElem_mem hsl)
    have hnh : IntKind.i64.wrap (0 - high[sd]) = -high[sd] := by rw [IntKind.wrap_i64]; omega
    have hnl : IntKind.i64.wrap (0 - low[sd]) = -low[sd] := by rw [IntKind.wrap_i64]; omega
    obtain ⟨cs5, hs5, hv5⟩ := hvb.put1 (lim := lim) (i := sd) (by omega) (cells_int .i64 (-high[sd])) (by omega)
    replace hvc' := hvc.chg (Chg.put b H4 cs5) (by omega : c ≠ b)
    obtain ⟨cs6, hs6, hv6⟩ := hvc'.put1 (lim := lim) (i := sd) (by omega) (cells_int .i64 (-low[sd])) (by omega)
    refine s_reg ?_
    simp only [o_cont, o_callT, callV_fn, o_pure, o_eff, o_callF, o_callN, o_guard, gk_tt, gk_ff, gk_tf, gk_ft, gk_u, t_op, t_alt, t_nil, o_nil, POp.ev, Opd.ev, EOp.ev, env0, gu, gv, setD, resV, List.set, List.map, List.map_nil, List.map_cons, Option.map_none, Option.map_some, Option.some.injEq, exists_eq_left', pickV, binV, convV, load1V, max2V, min2V, nilchkV, unV, boolEq, isNilV, fadV, extV, slenV, ne_eq, not_true_eq_false, if_false, if_true, ite_true, ite_false, Bool.false_eq_true, Bool.true_eq_false, beq_true, beq_false, beq_self_eq_true, Bool.not_true, Bool.not_false, reduceCtorEq, List.getElem?_toArray, List.getElem?_cons_zero, List.getElem?_cons_succ, cell_blk hE.bp, Nat.zero_add, h1', h3', h1, h3, hnh, hnl, hvb.iad .i64 hsl, hvc.iad .i64 hsh, Nat.mul_one, hs5, hs6]
    replace hE := hE.chg hs ht (Chg.put b H4 cs5) (by omega) hbp hbr
    have hn5 : (H4.put b cs5).next = H4.next := rfl
    generalize H4.put b cs5 = H5 at hv5 hvc' hv6 hE hn5 ⊢
    replace hv5 := hv5.chg (Chg.put c H5 cs6) (by omega : b ≠ c)
    replace hE := hE.chg hs ht (Chg.put c H5 cs6) (by omega) hcp hcr
    have hn6 : (H5.put c cs6).next = H5.next := rfl
    generalize H5.put c cs6 = H6 at hv5 hv6 hE hn6 ⊢
    obtain ⟨kn, rfl⟩ : ∃ kn : Nat, k = kn := ⟨k.toNat, by omega⟩
    have hvl : VecI H6 b s1 (low.set sd (-high[sd])) := by
      unfold VecI
      rw [List.length_set, List.map_set]
      exact hv5
    have hvh : VecI H6 c t1 (high.set sd (-low[sd])) := by
      unfold VecI
      rw [List.length_set, List.map_set]
      exact hv6
    have hmir : mirB kn sd low high = makeB kn (low.set sd (-high[sd])) (high.set sd (-low[sd])) := by
      unfold mirB
      rw [if_pos hg]
      simp [hsl, hsh]
    have hl6 := hE.lt
    refine s_reg ?_
    simp only [o_cont, o_callT, callV_fn, o_pure, o_eff, o_callF, o_callN, o_guard, gk_tt, gk_ff, gk_tf, gk_ft, gk_u, t_op, t_alt, t_nil, o_nil, POp.ev, Opd.ev, EOp.ev, env0, gu, gv, setD, resV, List.set, List.map, List.map_nil, List.map_cons, Option.map_none, Option.map_some, Option.some.injEq, exists_eq_left', pickV, binV, convV, load1V, max2V, min2V, nilchkV, unV, boolEq, isNilV, fadV, extV, slenV, ne_eq, not_true_eq_false, if_false, if_true, ite_true, ite_false, Bool.false_eq_true, Bool.true_eq_false, beq_true, beq_false, beq_self_eq_true, Bool.not_true, Bool.not_false, reduceCtorEq, List.getElem?_toArray, List.getElem?_cons_zero, List.getElem?_cons_succ, cell_blk hE.bp, Nat.zero_add]
    refine (boxOf_ok lim kn s1 t1 _ _ H6 (by omega) hvl.sl hvh.sl (by simp; omega) (by simp; omega) (by simp; omega) (by omega) ((InR.of_small g6).set _ (by omega)) ((InR.of_small g7).set _ (by omega))).mono ?_
    rintro v H7 ⟨hR, hx7⟩
    replace hE := hE.mono hx7
    obtain ⟨x, y, z, rfl⟩ := hR.form
    simp only [o_cont, o_callT, callV_fn, o_pure, o_eff, o_callF, o_callN, o_guard, gk_tt, gk_ff, gk_tf, gk_ft, gk_u, t_op, t_alt, t_nil, o_nil, POp.ev, Opd.ev, EOp.ev, env0, gu, gv, setD, resV, List.set, List.map, List.map_nil, List.map_cons, Option.map_none, Option.map_some, Option.some.injEq, exists_eq_left', pickV, binV, convV, load1V, max2V, min2V, nilchkV, unV, boolEq, isNilV, fadV, extV, slenV, ne_eq, not_true_eq_false, if_false, if_true, ite_true, ite_false, Bool.false_eq_true, Bool.true_eq_false, beq_true, beq_false, beq_self_eq_true, Bool.not_true, Bool.not_false, reduceCtorEq, List.getElem?_toArray, List.getElem?_cons_zero, List.getElem?_cons_succ, store3 (lim := lim) (b := r) (by omega) hE.br]
    refine s_ret1 ?_
    simp +decide only [p_seq_normal, p_seq_ret, p_seq_exit, p_block_normal, p_block_ret, p_block_exit, p_fin_ret, p_fin_normal, reduceIte, Nat.reduceEqDiff, resV, resOne, resL, gv, Option.some.injEq, exists_eq_left', Option.bind_some, Option.map_some, List.getD_cons_zero, List.getD_cons_succ, load3 (put_same _ _ _)]
    refine ⟨?_, Chg.ext hE.ext (Chg.put _ _ _) (by omega)⟩
    rw [hmir]
    exact (hR.put (by omega) _).low (by omega)
end Go.Proofs.Ytfnjjkljpegoeaa
