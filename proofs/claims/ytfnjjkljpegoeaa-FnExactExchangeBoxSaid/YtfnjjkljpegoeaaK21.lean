/- FnExactExchangeBox, the law's contract: for every box and list the law answers true; no condition. -/
import Derived.Test.YtfnjjkljpegoeaaK14
import Derived.Test.YtfnjjkljpegoeaaK20
namespace Go.Proofs.Ytfnjjkljpegoeaa
open Go.Ab
set_option linter.unusedSimpArgs false
set_option linter.unusedVariables false

theorem excB_len {k : Int} {ord low high : List Int} (h : (excB k ord low high).1 = true) : 1 ≤ (excB k ord low high).2.2.1.length ∧ (excB k ord low high).2.2.1.length ≤ 3 ∧ (excB k ord low high).2.2.2.length = (excB k ord low high).2.2.1.length := by
  unfold excB at h ⊢
  split at h
  · rename_i h0
    rw [if_pos h0]
    exact makeB_len h
  · cases h

theorem copyI_ok (lim : Nat) (s : Value) (l : List Int) (bare : Bool) (H : AHeap) (hl : lim ≤ H.next) (hs : SlI H s l) (hn : l.length ≤ 1000000) :
    ACalls Try.prog lim n_laws_toIntS [s, .bool bare] H fun v H' => (∃ b, H.next ≤ b ∧ CopyI H' b v l bare) ∧ Ext H H' := by
  refine (toIntS_ok lim s l bare H hl hs hn).mono ?_
  intro v H' h
  split at h
  · rename_i hb
    obtain ⟨rfl, rfl⟩ := h
    exact ⟨⟨_, Nat.le_refl _, .inl ⟨hb.1, List.length_eq_zero_iff.1 hb.2, rfl⟩⟩, Ext.refl _⟩
  · obtain ⟨rfl, rfl⟩ := h
    exact ⟨⟨_, Nat.le_refl _, .inr ⟨rfl, Nat.lt_succ_self _, alloc_new _ _⟩⟩, Ext.alloc _ _⟩

theorem lawExchange_ok (lim : Nat) (x o : Value) (k : Int) (low high ord : List Int) (H : AHeap) (hl : lim ≤ H.next) (hv : BoxV H x k low high) (ho : SlI H o ord) (hn3 : ord.length ≤ 20000000000000) (hn : low.length ≤ 20000000000000) (hn2 : high.length ≤ 20000000000000) :
    ACalls Try.prog lim n_laws_FnExactExchangeBox [x, o] H fun v H' => v = .bool true := by
  have hv0 := hv
  obtain ⟨s, t, rfl, hs, ht⟩ := hv0
  refine is_laws_FnExactExchangeBox.go rfl ?_
  unfold c_laws_FnExactExchangeBox
  refine s_reg ?_
  simp only [o_cont, o_callT, callV_fn, o_pure, o_eff, o_callF, o_callN, o_guard, gk_tt, gk_ff, gk_tf, gk_ft, gk_u, t_op, t_alt, t_nil, o_nil, POp.ev, Opd.ev, EOp.ev, env0, gu, gv, setD, resV, List.set, List.map, List.map_nil, List.map_cons, Option.map_none, Option.map_some, Option.some.injEq, exists_eq_left', pickV, binV, convV, load1V, max2V, min2V, nilchkV, unV, boolEq, isNilV, fadV, extV, slenV, ne_eq, not_true_eq_false, if_false, if_true, ite_true, ite_false, Bool.false_eq_true, Bool.true_eq_false, beq_true, beq_false, beq_self_eq_true, Bool.not_true, Bool.not_false, reduceCtorEq, List.getElem?_toArray, List.getElem?_cons_zero, List.getElem?_cons_succ, boxH, cellsV]
  have hx1 : Ext H (H.alloc [.int .i64 k, s, t]) := Ext.alloc _ _
  have hbp : (H.alloc [.int .i64 k, s, t]).blk H.next = some [.int .i64 k, s, t] := alloc_new _ _
  have hpn : H.next < (H.alloc [.int .i64 k, s, t]).next := Nat.lt_succ_self _
  replace hv := hv.keep hx1
  generalize H.alloc [.int .i64 k, s, t] = H1 at hx1 hbp hpn hv ⊢
  have hsub : IntKind.i64.wrap (1000000 - (ord.length : Int)) = 1000000 - ord.length := by rw [IntKind.wrap_i64]; omega
  refine s_reg ?_
  simp only [o_cont, o_callT, callV_fn, o_pure, o_eff, o_callF, o_callN, o_guard, gk_tt, gk_ff, gk_tf, gk_ft, gk_u, t_op, t_alt, t_nil, o_nil, POp.ev, Opd.ev, EOp.ev, env0, gu, gv, setD, resV, List.set, List.map, List.map_nil, List.map_cons, Option.map_none, Option.map_some, Option.some.injEq, exists_eq_left', pickV, binV, convV, load1V, max2V, min2V, nilchkV, unV, boolEq, isNilV, fadV, extV, slenV, ne_eq, not_true_eq_false, if_false, if_true, ite_true, ite_false, Bool.false_eq_true, Bool.true_eq_false, beq_true, beq_false, beq_self_eq_true, Bool.not_true, Bool.not_false, reduceCtorEq, List.getElem?_toArray, List.getElem?_cons_zero, List.getElem?_cons_succ, ho.lenV, hsub]
  refine s_reg ?_
  simp only [o_cont, o_callT, callV_fn, o_pure, o_eff, o_callF, o_callN, o_guard, gk_tt, gk_ff, gk_tf, gk_ft, gk_u, t_op, t_alt, t_nil, o_nil, POp.ev, Opd.ev, EOp.ev, env0, gu, gv, setD, resV, List.set, List.map, List.map_nil, List.map_cons, Option.map_none, Option.map_some, Option.some.injEq, exists_eq_left', pickV, binV, convV, load1V, max2V, min2V, nilchkV, unV, boolEq, isNilV, fadV, extV, slenV, ne_eq, not_true_eq_false, if_false, if_true, ite_true, ite_false, Bool.false_eq_true, Bool.true_eq_false, beq_true, beq_false, beq_self_eq_true, Bool.not_true, Bool.not_false, reduceCtorEq, List.getElem?_toArray, List.getElem?_cons_zero, List.getElem?_cons_succ, load3 hbp]
  refine (szBox_ok lim _ _ _ _ _ _ (by omega) hv hn hn2 (by omega) (by omega)).mono ?_
  rintro _ H2 ⟨⟨z, rfl, hz⟩, hx2⟩
  replace hv := hv.keep hx2
  have hbp2 : H2.blk H.next = some [.int .i64 k, s, t] := by rw [hx2.blk _ hpn]; exact hbp
  have hn2' := hx2.next
  simp only [o_cont, o_callT, callV_fn, o_pure, o_eff, o_callF, o_callN, o_guard, gk_tt, gk_ff, gk_tf, gk_ft, gk_u, t_op, t_alt, t_nil, o_nil, POp.ev, Opd.ev, EOp.ev, env0, gu, gv, setD, resV, List.set, List.map, List.map_nil, List.map_cons, Option.map_none, Option.map_some, Option.some.injEq, exists_eq_left', pickV, binV, convV, load1V, max2V, min2V, nilchkV, unV, boolEq, isNilV, fadV, extV, slenV, ne_eq, not_true_eq_false, if_false, if_true, ite_true, ite_false, Bool.false_eq_true, Bool.true_eq_false, beq_true, beq_false, beq_self_eq_true, Bool.not_true, Bool.not_false, reduceCtorEq, List.getElem?_toArray, List.getElem?_cons_zero, List.getElem?_cons_succ]
  refine s_test ?_
  simp only [o_cont, o_callT, callV_fn, o_pure, o_eff, o_callF, o_callN, o_guard, gk_tt, gk_ff, gk_tf, gk_ft, gk_u, t_op, t_alt, t_nil, o_nil, POp.ev, Opd.ev, EOp.ev, env0, gu, gv, setD, resV, List.set, List.map, List.map_nil, List.map_cons, Option.map_none, Option.map_some, Option.some.injEq, exists_eq_left', pickV, binV, convV, load1V, max2V, min2V, nilchkV, unV, boolEq, isNilV, fadV, extV, slenV, ne_eq, not_true_eq_false, if_false, if_true, ite_true, ite_false, Bool.false_eq_true, Bool.true_eq_false, beq_true, beq_false, beq_self_eq_true, Bool.not_true, Bool.not_false, reduceCtorEq, List.getElem?_toArray, List.getElem?_cons_zero, List.getElem?_cons_succ]
  refine Test.split (fun h => ?_) (fun h => ?_)
  · refine s_reg ?_
    simp only [o_cont, o_callT, callV_fn, o_pure, o_eff, o_callF, o_callN, o_guard, gk_tt, gk_ff, gk_tf, gk_ft, gk_u, t_op, t_alt, t_nil, o_nil, POp.ev, Opd.ev, EOp.ev, env0, gu, gv, setD, resV, List.set, List.map, List.map_nil, List.map_cons, Option.map_none, Option.map_some, Option.some.injEq, exists_eq_left', pickV, binV, convV, load1V, max2V, min2V, nilchkV, unV, boolEq, isNilV, fadV, extV, slenV, ne_eq, not_true_eq_false, if_false, if_true, ite_true, ite_false, Bool.false_eq_true, Bool.true_eq_false, beq_true, beq_false, beq_self_eq_true, Bool.not_true, Bool.not_false, reduceCtorEq, List.getElem?_toArray, List.getElem?_cons_zero, List.getElem?_cons_succ]
    refine s_ret1 ?_
    simp +decide only [p_seq_normal, p_seq_ret, p_seq_exit, p_block_normal, p_block_ret, p_block_exit, p_fin_ret, p_fin_normal, reduceIte, Nat.reduceEqDiff, resV, resOne, resL, gv, Option.some.injEq, exists_eq_left', Option.bind_some, Option.map_some, List.getD_cons_zero, List.getD_cons_succ]
  · have hsz := hz (by simpa using h)
    refine s_skip1 ?_
    simp +decide only [p_seq_normal, p_seq_ret, p_seq_exit, p_block_normal, p_block_ret, p_block_exit, p_fin_ret, p_fin_normal, reduceIte, Nat.reduceEqDiff, resV, resOne, resL, gv, Option.some.injEq, exists_eq_left', Option.bind_some, Option.map_some, List.getD_cons_zero, List.getD_cons_succ]
    refine s_reg ?_
    simp only [o_cont, o_callT, callV_fn, o_pure, o_eff, o_callF, o_callN, o_guard, gk_tt, gk_ff, gk_tf, gk_ft, gk_u, t_op, t_alt, t_nil, o_nil, POp.ev, Opd.ev, EOp.ev, env0, gu, gv, setD, resV, List.set, List.map, List.map_nil, List.map_cons, Option.map_none, Option.map_some, Option.some.injEq, exists_eq_left', pickV, binV, convV, load1V, max2V, min2V, nilchkV, unV, boolEq, isNilV, fadV, extV, slenV, ne_eq, not_true_eq_false, if_false, if_true, ite_true, ite_false, Bool.false_eq_true, Bool.true_eq_false, beq_true, beq_false, beq_self_eq_true, Bool.not_true, Bool.not_false, reduceCtorEq, List.getElem?_toArray, List.getElem?_cons_zero, List.getElem?_cons_succ, load3 hbp2]
    -- the specification's answer on a copy
    refine (toBox_ok lim _ _ _ _ false _ (by omega) hv (by omega) (by omega)).mono ?_
    rintro _ H3 ⟨s1, t1, b1, c1, rfl, hb1, hc1, hbc1, hcs1, hct1, hx3⟩
    replace hv := hv.keep hx3
    have hbp3 : H3.blk H.next = some [.int .i64 k, s, t] := by rw [hx3.blk _ (by omega)]; exact hbp2
    have hn3' := hx3.next
    simp only [o_cont, o_callT, callV_fn, o_pure, o_eff, o_callF, o_callN, o_guard, gk_tt, gk_ff, gk_tf, gk_ft, gk_u, t_op, t_alt, t_nil, o_nil, POp.ev, Opd.ev, EOp.ev, env0, gu, gv, setD, resV, List.set, List.map, List.map_nil, List.map_cons, Option.map_none, Option.map_some, Option.some.injEq, exists_eq_left', pickV, binV, convV, load1V, max2V, min2V, nilchkV, unV, boolEq, isNilV, fadV, extV, slenV, ne_eq, not_true_eq_false, if_false, if_true, ite_true, ite_false, Bool.false_eq_true, Bool.true_eq_false, beq_true, beq_false, beq_self_eq_true, Bool.not_true, Bool.not_false, reduceCtorEq, List.getElem?_toArray, List.getElem?_cons_zero, List.getElem?_cons_succ]
    have ho3 : SlI H3 o ord := ho.keep (Keep.of_ext ((hx1.trans hx2).trans hx3) (Nat.le_refl _)) (Nat.le_refl _)
    refine (copyI_ok lim o ord false _ (by omega) ho3 (by omega)).mono ?_
    rintro vo H3' ⟨⟨bo, hbo, hco⟩, hx3'⟩
    replace hv := hv.keep hx3'
    replace hcs1 := hcs1.ext hx3'
    replace hct1 := hct1.ext hx3'
    replace hbp3 : H3'.blk H.next = some [.int .i64 k, s, t] := by rw [hx3'.blk _ (by omega)]; exact hbp3
    replace hx3 := hx3.trans hx3'
    have hn3'' := hx3'.next
    simp only [o_cont, o_callT, callV_fn, o_pure, o_eff, o_callF, o_callN, o_guard, gk_tt, gk_ff, gk_tf, gk_ft, gk_u, t_op, t_alt, t_nil, o_nil, POp.ev, Opd.ev, EOp.ev, env0, gu, gv, setD, resV, List.set, List.map, List.map_nil, List.map_cons, Option.map_none, Option.map_some, Option.some.injEq, exists_eq_left', pickV, binV, convV, load1V, max2V, min2V, nilchkV, unV, boolEq, isNilV, fadV, extV, slenV, ne_eq, not_true_eq_false, if_false, if_true, ite_true, ite_false, Bool.false_eq_true, Bool.true_eq_false, beq_true, beq_false, beq_self_eq_true, Bool.not_true, Bool.not_false, reduceCtorEq, List.getElem?_toArray, List.getElem?_cons_zero, List.getElem?_cons_succ]
    refine (sExchange_ok lim _ _ k low high ord H3' (by omega) ⟨s1, t1, rfl, hcs1.sl, hct1.sl⟩ hco.sl (by omega) (by omega) (by omega)).mono ?_
    rintro _ H4 ⟨hR, hx4⟩
    replace hv := hv.keep hx4
    have hbp4 : H4.blk H.next = some [.int .i64 k, s, t] := by rw [hx4.blk _ (by omega)]; exact hbp3
    have hn4' := hx4.next
    have hlen := excB_len (k := k) (ord := ord) (low := low) (high := high)
    obtain ⟨w, rfl, hw⟩ := BoxR.boxO (r := (excB k ord low high).2) hR (fun h => by have := hlen h; omega)
    clear hR hcs1 hct1
    obtain ⟨ws, wt, rfl⟩ := hw.cells
    simp only [o_cont, o_callT, callV_fn, o_pure, o_eff, o_callF, o_callN, o_guard, gk_tt, gk_ff, gk_tf, gk_ft, gk_u, t_op, t_alt, t_nil, o_nil, POp.ev, Opd.ev, EOp.ev, env0, gu, gv, setD, resV, List.set, List.map, List.map_nil, List.map_cons, Option.map_none, Option.map_some, Option.some.injEq, exists_eq_left', pickV, binV, convV, load1V, max2V, min2V, nilchkV, unV, boolEq, isNilV, fadV, extV, slenV, ne_eq, not_true_eq_false, if_false, if_true, ite_true, ite_false, Bool.false_eq_true, Bool.true_eq_false, beq_true, beq_false, beq_self_eq_true, Bool.not_true, Bool.not_false, reduceCtorEq, List.getElem?_toArray, List.getElem?_cons_zero, List.getElem?_cons_succ, store3_new (lim := lim) (H := H4) (by omega)]
    have hpl : (pickB (excB k ord low high).1 (excB k ord low high).2).2.1.length ≤ 3 ∧ (pickB (excB k ord low high).1 (excB k ord low high).2).2.2.length ≤ 3 := by
      unfold pickB
      cases hok : (excB k ord low high).1
      · simp
      · have := hlen hok
        simp only [if_true]
        omega
    have hx5 : Ext H4 (H4.alloc [.int .i64 (pickB (excB k ord low high).1 (excB k ord low high).2).1, ws, wt]) := Ext.alloc _ _
    have hbw : (H4.alloc [.int .i64 (pickB (excB k ord low high).1 (excB k ord low high).2).1, ws, wt]).blk H4.next = some [.int .i64 (pickB (excB k ord low high).1 (excB k ord low high).2).1, ws, wt] := alloc_new _ _
    have hn5' : (H4.alloc [.int .i64 (pickB (excB k ord low high).1 (excB k ord low high).2).1, ws, wt]).next = H4.next + 1 := rfl
    replace hv := hv.keep hx5
    replace hw := hw.ext hx5
    have hbp5 := hbp4
    rw [← hx5.blk _ (by omega)] at hbp5
    generalize H4.alloc [.int .i64 (pickB (excB k ord low high).1 (excB k ord low high).2).1, ws, wt] = H5 at hx5 hbw hn5' hv hw hbp5 ⊢
    generalize H4.next = pw at hn4' hbw hn5' hw ⊢
    -- the implementation's own copy
    refine s_reg ?_
    simp only [o_cont, o_callT, callV_fn, o_pure, o_eff, o_callF, o_callN, o_guard, gk_tt, gk_ff, gk_tf, gk_ft, gk_u, t_op, t_alt, t_nil, o_nil, POp.ev, Opd.ev, EOp.ev, env0, gu, gv, setD, resV, List.set, List.map, List.map_nil, List.map_cons, Option.map_none, Option.map_some, Option.some.injEq, exists_eq_left', pickV, binV, convV, load1V, max2V, min2V, nilchkV, unV, boolEq, isNilV, fadV, extV, slenV, ne_eq, not_true_eq_false, if_false, if_true, ite_true, ite_false, Bool.false_eq_true, Bool.true_eq_false, beq_true, beq_false, beq_self_eq_true, Bool.not_true, Bool.not_false, reduceCtorEq, List.getElem?_toArray, List.getElem?_cons_zero, List.getElem?_cons_succ, load3 hbp5]
    refine (toBox_ok lim _ _ _ _ false _ (by omega) hv (by omega) (by omega)).mono ?_
    rintro _ H6 ⟨s2, t2, b2, c2, rfl, hb2, hc2, hbc2, hcs2, hct2, hx6⟩
    have hn6' := hx6.next
    have hcell2 := hcs2.sl.cellsV
    simp only [o_cont, o_callT, callV_fn, o_pure, o_eff, o_callF, o_callN, o_guard, gk_tt, gk_ff, gk_tf, gk_ft, gk_u, t_op, t_alt, t_nil, o_nil, POp.ev, Opd.ev, EOp.ev, env0, gu, gv, setD, resV, List.set, List.map, List.map_nil, List.map_cons, Option.map_none, Option.map_some, Option.some.injEq, exists_eq_left', pickV, binV, convV, load1V, max2V, min2V, nilchkV, unV, boolEq, isNilV, fadV, extV, slenV, ne_eq, not_true_eq_false, if_false, if_true, ite_true, ite_false, Bool.false_eq_true, Bool.true_eq_false, beq_true, beq_false, beq_self_eq_true, Bool.not_true, Bool.not_false, reduceCtorEq, List.getElem?_toArray, List.getElem?_cons_zero, List.getElem?_cons_succ, store3_new (lim := lim) (H := H6) (by omega)]
    have hla2 : Laid H6 b2 s2 low := by
      rcases hcs2 with ⟨h1, _⟩ | h1
      · cases h1
      · exact h1
    have hlb2 : Laid H6 c2 t2 high := by
      rcases hct2 with ⟨h1, _⟩ | h1
      · cases h1
      · exact h1
    have hxo : BoxO H6 H5.next H6.next (.agg #[.int .i64 k, s2, t2]) k low high := ⟨s2, t2, rfl, .inr ⟨b2, c2, hbc2 rfl, hb2, hla2.2.1, hc2, hlb2.2.1, hla2.vec, hlb2.vec⟩⟩
    replace hv := hv.keep hx6
    replace hw := hw.ext hx6
    have hbw6 := hbw
    rw [← hx6.blk _ (by omega)] at hbw6
    have hbp6 := hbp5
    rw [← hx6.blk _ (by omega)] at hbp6
    have hx7 : Ext H6 (H6.alloc [.int .i64 k, s2, t2]) := Ext.alloc _ _
    have hbx7 : (H6.alloc [.int .i64 k, s2, t2]).blk H6.next = some [.int .i64 k, s2, t2] := alloc_new _ _
    have hn7' : (H6.alloc [.int .i64 k, s2, t2]).next = H6.next + 1 := rfl
    replace hv := hv.keep hx7
    replace hw := hw.ext hx7
    replace hxo := hxo.ext hx7
    replace hla2 := hla2.ext hx7
    replace hlb2 := hlb2.ext hx7
    have hbw7 := hbw6
    rw [← hx7.blk _ (by omega)] at hbw7
    have hbp7 := hbp6
    rw [← hx7.blk _ (by omega)] at hbp7
    generalize H6.alloc [.int .i64 k, s2, t2] = H7 at hx7 hbx7 hn7' hv hw hxo hla2 hlb2 hbw7 hbp7 ⊢
    generalize H6.next = px at hn6' hbx7 hn7' hxo ⊢
    -- the implementation's own copy of the list
    have ho7 : SlI H7 o ord := ho.keep (Keep.of_ext ((((((hx1.trans hx2).trans hx3).trans hx4).trans hx5).trans hx6).trans hx7) (Nat.le_refl _)) (Nat.le_refl _)
    refine s_reg ?_
    simp only [o_cont, o_callT, callV_fn, o_pure, o_eff, o_callF, o_callN, o_guard, gk_tt, gk_ff, gk_tf, gk_ft, gk_u, t_op, t_alt, t_nil, o_nil, POp.ev, Opd.ev, EOp.ev, env0, gu, gv, setD, resV, List.set, List.map, List.map_nil, List.map_cons, Option.map_none, Option.map_some, Option.some.injEq, exists_eq_left', pickV, binV, convV, load1V, max2V, min2V, nilchkV, unV, boolEq, isNilV, fadV, extV, slenV, ne_eq, not_true_eq_false, if_false, if_true, ite_true, ite_false, Bool.false_eq_true, Bool.true_eq_false, beq_true, beq_false, beq_self_eq_true, Bool.not_true, Bool.not_false, reduceCtorEq, List.getElem?_toArray, List.getElem?_cons_zero, List.getElem?_cons_succ]
    refine (copyI_ok lim o ord false _ (by omega) ho7 (by omega)).mono ?_
    rintro vo2 H7' ⟨⟨bo2, hbo2, hco2⟩, hx7'⟩
    simp only [o_cont, o_callT, callV_fn, o_pure, o_eff, o_callF, o_callN, o_guard, gk_tt, gk_ff, gk_tf, gk_ft, gk_u, t_op, t_alt, t_nil, o_nil, POp.ev, Opd.ev, EOp.ev, env0, gu, gv, setD, resV, List.set, List.map, List.map_nil, List.map_cons, Option.map_none, Option.map_some, Option.some.injEq, exists_eq_left', pickV, binV, convV, load1V, max2V, min2V, nilchkV, unV, boolEq, isNilV, fadV, extV, slenV, ne_eq, not_true_eq_false, if_false, if_true, ite_true, ite_false, Bool.false_eq_true, Bool.true_eq_false, beq_true, beq_false, beq_self_eq_true, Bool.not_true, Bool.not_false, reduceCtorEq, List.getElem?_toArray, List.getElem?_cons_zero, List.getElem?_cons_succ]
    have hlo2 : Laid H7' bo2 vo2 ord := by
      rcases hco2 with ⟨h1, _⟩ | h1
      · cases h1
      · exact h1
    clear hco2
    replace hv := hv.keep hx7'
    replace hw := hw.ext hx7'
    replace hxo := hxo.ext hx7'
    replace hla2 := hla2.ext hx7'
    replace hlb2 := hlb2.ext hx7'
    have hn7'' := hx7'.next
    have hbo3 : bo2 < H7'.next := hlo2.2.1
    rw [← hx7'.blk _ (by omega)] at hbw7 hbp7 hbx7
    replace hx7 := hx7.trans hx7'
    -- the implementation's answer
    refine s_reg ?_
    simp only [o_cont, o_callT, callV_fn, o_pure, o_eff, o_callF, o_callN, o_guard, gk_tt, gk_ff, gk_tf, gk_ft, gk_u, t_op, t_alt, t_nil, o_nil, POp.ev, Opd.ev, EOp.ev, env0, gu, gv, setD, resV, List.set, List.map, List.map_nil, List.map_cons, Option.map_none, Option.map_some, Option.some.injEq, exists_eq_left', pickV, binV, convV, load1V, max2V, min2V, nilchkV, unV, boolEq, isNilV, fadV, extV, slenV, ne_eq, not_true_eq_false, if_false, if_true, ite_true, ite_false, Bool.false_eq_true, Bool.true_eq_false, beq_true, beq_false, beq_self_eq_true, Bool.not_true, Bool.not_false, reduceCtorEq, List.getElem?_toArray, List.getElem?_cons_zero, List.getElem?_cons_succ, load3 hbx7]
    refine (iExchange_ok lim _ _ k low high ord H7' (by omega) hxo.boxV hlo2.vec.sl (by omega) (by omega) (by omega)).mono ?_
    rintro _ H8 ⟨hR, hx8⟩
    have hn8' := hx8.next
    obtain ⟨g, rfl, hg⟩ := BoxR.boxO (r := (excB k ord low high).2) hR (fun h => by have := hlen h; omega)
    clear hR
    obtain ⟨gs, gt, rfl⟩ := hg.cells
    simp only [o_cont, o_callT, callV_fn, o_pure, o_eff, o_callF, o_callN, o_guard, gk_tt, gk_ff, gk_tf, gk_ft, gk_u, t_op, t_alt, t_nil, o_nil, POp.ev, Opd.ev, EOp.ev, env0, gu, gv, setD, resV, List.set, List.map, List.map_nil, List.map_cons, Option.map_none, Option.map_some, Option.some.injEq, exists_eq_left', pickV, binV, convV, load1V, max2V, min2V, nilchkV, unV, boolEq, isNilV, fadV, extV, slenV, ne_eq, not_true_eq_false, if_false, if_true, ite_true, ite_false, Bool.false_eq_true, Bool.true_eq_false, beq_true, beq_false, beq_self_eq_true, Bool.not_true, Bool.not_false, reduceCtorEq, List.getElem?_toArray, List.getElem?_cons_zero, List.getElem?_cons_succ, store3_new (lim := lim) (H := H8) (by omega)]
    generalize hok : (excB k ord low high).1 = ok at hw hg hpl hbw7 ⊢
    generalize hpk : pickB ok (excB k ord low high).2 = pk at hw hg hpl hbw7 ⊢
    obtain ⟨wk, wl, wh⟩ := pk
    simp only at hw hg hpl hbw7 ⊢
    replace hv := hv.keep hx8
    replace hw := hw.ext hx8
    replace hxo := hxo.ext hx8
    replace hla2 := hla2.ext hx8
    replace hlb2 := hlb2.ext hx8
    replace hlo2 := hlo2.ext hx8
    have hbw8 := hbw7
    rw [← hx8.blk _ (by omega)] at hbw8
    have hbx8 := hbx7
    rw [← hx8.blk _ (by omega)] at hbx8
    have hbp8 := hbp7
    rw [← hx8.blk _ (by omega)] at hbp8
    have hx9 : Ext H8 (H8.alloc [.int .i64 wk, gs, gt]) := Ext.alloc _ _
    have hbg9 : (H8.alloc [.int .i64 wk, gs, gt]).blk H8.next = some [.int .i64 wk, gs, gt] := alloc_new _ _
    have hn9' : (H8.alloc [.int .i64 wk, gs, gt]).next = H8.next + 1 := rfl
    replace hv := hv.keep hx9
    replace hw := hw.ext hx9
    replace hg := hg.ext hx9
    replace hxo := hxo.ext hx9
    replace hla2 := hla2.ext hx9
    replace hlb2 := hlb2.ext hx9
    replace hlo2 := hlo2.ext hx9
    have hbw9 := hbw8
    rw [← hx9.blk _ (by omega)] at hbw9
    have hbx9 := hbx8
    rw [← hx9.blk _ (by omega)] at hbx9
    have hbp9 := hbp8
    rw [← hx9.blk _ (by omega)] at hbp9
    generalize H8.alloc [.int .i64 wk, gs, gt] = H9 at hx9 hbg9 hn9' hv hw hg hxo hla2 hlb2 hlo2 hbw9 hbx9 hbp9 ⊢
    generalize H8.next = pg at hn8' hbg9 hn9' hg ⊢
    have hne : (if true = true then !(ok == ok) else (ok == ok)) = false := by simp
    have hne2 : (!(ok == ok)) = false := by simp
    refine s_test_I false (Ext H9) ?_ (fun H10 hx10 hg0 => by cases hg0) (fun H10 hx10 _ => ?_)
    · simp only [o_cont, o_callT, callV_fn, o_pure, o_eff, o_callF, o_callN, o_guard, gk_tt, gk_ff, gk_tf, gk_ft, gk_u, t_op, t_alt, t_nil, o_nil, POp.ev, Opd.ev, EOp.ev, env0, gu, gv, setD, resV, List.set, List.map, List.map_nil, List.map_cons, Option.map_none, Option.map_some, Option.some.injEq, exists_eq_left', pickV, binV, convV, load1V, max2V, min2V, nilchkV, unV, boolEq, isNilV, fadV, extV, slenV, ne_eq, not_true_eq_false, if_false, if_true, ite_true, ite_false, Bool.false_eq_true, Bool.true_eq_false, beq_true, beq_false, beq_self_eq_true, Bool.not_true, Bool.not_false, reduceCtorEq, List.getElem?_toArray, List.getElem?_cons_zero, List.getElem?_cons_succ, load3 hbg9, load3 hbw9]
      refine (eqBox_ok lim _ _ _ _ _ _ _ _ _ (by omega) hg.boxV hw.boxV (by omega) (by omega) ⟨rfl, rfl, rfl⟩).mono ?_
      rintro _ H' ⟨rfl, hx⟩
      simp only [o_cont, o_callT, callV_fn, o_pure, o_eff, o_callF, o_callN, o_guard, gk_tt, gk_ff, gk_tf, gk_ft, gk_u, t_op, t_alt, t_nil, o_nil, POp.ev, Opd.ev, EOp.ev, env0, gu, gv, setD, resV, List.set, List.map, List.map_nil, List.map_cons, Option.map_none, Option.map_some, Option.some.injEq, exists_eq_left', pickV, binV, convV, load1V, max2V, min2V, nilchkV, unV, boolEq, isNilV, fadV, extV, slenV, ne_eq, not_true_eq_false, if_false, if_true, ite_true, ite_false, Bool.false_eq_true, Bool.true_eq_false, beq_true, beq_false, beq_self_eq_true, Bool.not_true, Bool.not_false, reduceCtorEq, List.getElem?_toArray, List.getElem?_cons_zero, List.getElem?_cons_succ, hne2]
      exact ⟨trivial, trivial, hx⟩
    refine s_skip1 ?_
    simp +decide only [p_seq_normal, p_seq_ret, p_seq_exit, p_block_normal, p_block_ret, p_block_exit, p_fin_ret, p_fin_normal, reduceIte, Nat.reduceEqDiff, resV, resOne, resL, gv, Option.some.injEq, exists_eq_left', Option.bind_some, Option.map_some, List.getD_cons_zero, List.getD_cons_succ]
    replace hv := hv.keep hx10
    replace hw := hw.ext hx10
    replace hg := hg.ext hx10
    replace hxo := hxo.ext hx10
    replace hla2 := hla2.ext hx10
    replace hlb2 := hlb2.ext hx10
    replace hlo2 := hlo2.ext hx10
    rw [← hx10.blk _ (by omega)] at hbw9 hbx9 hbp9 hbg9
    have hn10' := hx10.next
    -- the argument is as it was
    refine s_test_I false (Ext H10) ?_ (fun H11 hx11 hg0 => by cases hg0) (fun H11 hx11 _ => ?_)
    · simp only [o_cont, o_callT, callV_fn, o_pure, o_eff, o_callF, o_callN, o_guard, gk_tt, gk_ff, gk_tf, gk_ft, gk_u, t_op, t_alt, t_nil, o_nil, POp.ev, Opd.ev, EOp.ev, env0, gu, gv, setD, resV, List.set, List.map, List.map_nil, List.map_cons, Option.map_none, Option.map_some, Option.some.injEq, exists_eq_left', pickV, binV, convV, load1V, max2V, min2V, nilchkV, unV, boolEq, isNilV, fadV, extV, slenV, ne_eq, not_true_eq_false, if_false, if_true, ite_true, ite_false, Bool.false_eq_true, Bool.true_eq_false, beq_true, beq_false, beq_self_eq_true, Bool.not_true, Bool.not_false, reduceCtorEq, List.getElem?_toArray, List.getElem?_cons_zero, List.getElem?_cons_succ, load3 hbx9, load3 hbp9]
      refine (toBox_ok H10.next _ _ _ _ false _ (by omega) hv (by omega) (by omega)).use ?_
      rintro _ H' ⟨s3, t3, b3, c3, rfl, hb3, hc3, hbc3, hcs3, hct3, hx⟩ _
      have hn' := hx.next
      have hla3 : Laid H' b3 s3 low := by
        rcases hcs3 with ⟨h1, _⟩ | h1
        · cases h1
        · exact h1
      have hlb3 : Laid H' c3 t3 high := by
        rcases hct3 with ⟨h1, _⟩ | h1
        · cases h1
        · exact h1
      simp only [o_cont, o_callT, callV_fn, o_pure, o_eff, o_callF, o_callN, o_guard, gk_tt, gk_ff, gk_tf, gk_ft, gk_u, t_op, t_alt, t_nil, o_nil, POp.ev, Opd.ev, EOp.ev, env0, gu, gv, setD, resV, List.set, List.map, List.map_nil, List.map_cons, Option.map_none, Option.map_some, Option.some.injEq, exists_eq_left', pickV, binV, convV, load1V, max2V, min2V, nilchkV, unV, boolEq, isNilV, fadV, extV, slenV, ne_eq, not_true_eq_false, if_false, if_true, ite_true, ite_false, Bool.false_eq_true, Bool.true_eq_false, beq_true, beq_false, beq_self_eq_true, Bool.not_true, Bool.not_false, reduceCtorEq, List.getElem?_toArray, List.getElem?_cons_zero, List.getElem?_cons_succ]
      refine (intactBox_ok lim _ _ _ _ _ _ _ _ _ _ _ _ (by omega) (hla2.ext hx) (hlb2.ext hx) hla3 hlb3 (by omega) (by omega)).mono ?_
      rintro _ H'' ⟨rfl, hx'⟩
      simp only [o_cont, o_callT, callV_fn, o_pure, o_eff, o_callF, o_callN, o_guard, gk_tt, gk_ff, gk_tf, gk_ft, gk_u, t_op, t_alt, t_nil, o_nil, POp.ev, Opd.ev, EOp.ev, env0, gu, gv, setD, resV, List.set, List.map, List.map_nil, List.map_cons, Option.map_none, Option.map_some, Option.some.injEq, exists_eq_left', pickV, binV, convV, load1V, max2V, min2V, nilchkV, unV, boolEq, isNilV, fadV, extV, slenV, ne_eq, not_true_eq_false, if_false, if_true, ite_true, ite_false, Bool.false_eq_true, Bool.true_eq_false, beq_true, beq_false, beq_self_eq_true, Bool.not_true, Bool.not_false, reduceCtorEq, List.getElem?_toArray, List.getElem?_cons_zero, List.getElem?_cons_succ]
      exact ⟨trivial, trivial, hx.trans hx'⟩
    refine s_skip1 ?_
    simp +decide only [p_seq_normal, p_seq_ret, p_seq_exit, p_block_normal, p_block_ret, p_block_exit, p_fin_ret, p_fin_normal, reduceIte, Nat.reduceEqDiff, resV, resOne, resL, gv, Option.some.injEq, exists_eq_left', Option.bind_some, Option.map_some, List.getD_cons_zero, List.getD_cons_succ]
    replace hv := hv.keep hx11
    replace hw := hw.ext hx11
    replace hg := hg.ext hx11
    replace hxo := hxo.ext hx11
    clear hla2 hlb2
    replace hlo2 := hlo2.ext hx11
    rw [← hx11.blk _ (by omega)] at hbw9 hbx9 hbp9 hbg9
    have hn11' := hx11.next
    -- and the list
    have hxa : Ext H H11 := (((((((((hx1.trans hx2).trans hx3).trans hx4).trans hx5).trans hx6).trans hx7).trans hx8).trans hx9).trans hx10).trans hx11
    have ho11 : SlI H11 o ord := ho.keep (Keep.of_ext hxa (Nat.le_refl _)) (Nat.le_refl _)
    refine s_test_I false (Ext H11) ?_ (fun H11' hx11' hg0 => by cases hg0) (fun H11' hx11' _ => ?_)
    · simp only [o_cont, o_callT, callV_fn, o_pure, o_eff, o_callF, o_callN, o_guard, gk_tt, gk_ff, gk_tf, gk_ft, gk_u, t_op, t_alt, t_nil, o_nil, POp.ev, Opd.ev, EOp.ev, env0, gu, gv, setD, resV, List.set, List.map, List.map_nil, List.map_cons, Option.map_none, Option.map_some, Option.some.injEq, exists_eq_left', pickV, binV, convV, load1V, max2V, min2V, nilchkV, unV, boolEq, isNilV, fadV, extV, slenV, ne_eq, not_true_eq_false, if_false, if_true, ite_true, ite_false, Bool.false_eq_true, Bool.true_eq_false, beq_true, beq_false, beq_self_eq_true, Bool.not_true, Bool.not_false, reduceCtorEq, List.getElem?_toArray, List.getElem?_cons_zero, List.getElem?_cons_succ]
      refine (copyI_ok lim o ord false _ (by omega) ho11 (by omega)).mono ?_
      rintro vo4 H' ⟨⟨bo4, hbo4, hco4⟩, hx⟩
      have hlo4 : Laid H' bo4 vo4 ord := by
        rcases hco4 with ⟨h1, _⟩ | h1
        · cases h1
        · exact h1
      have hlo5 := hlo2.ext hx
      simp only [o_cont, o_callT, callV_fn, o_pure, o_eff, o_callF, o_callN, o_guard, gk_tt, gk_ff, gk_tf, gk_ft, gk_u, t_op, t_alt, t_nil, o_nil, POp.ev, Opd.ev, EOp.ev, env0, gu, gv, setD, resV, List.set, List.map, List.map_nil, List.map_cons, Option.map_none, Option.map_some, Option.some.injEq, exists_eq_left', pickV, binV, convV, load1V, max2V, min2V, nilchkV, unV, boolEq, isNilV, fadV, extV, slenV, ne_eq, not_true_eq_false, if_false, if_true, ite_true, ite_false, Bool.false_eq_true, Bool.true_eq_false, beq_true, beq_false, beq_self_eq_true, Bool.not_true, Bool.not_false, reduceCtorEq, List.getElem?_toArray, List.getElem?_cons_zero, List.getElem?_cons_succ]
      obtain ⟨rfl, e1, e2⟩ := hlo4
      obtain ⟨rfl, e3, e4⟩ := hlo5
      refine (intactIntS_ok _ _ _ ord _ e4 e2 e3 e1 (by omega)).eq ?_
      simp only [o_cont, o_callT, callV_fn, o_pure, o_eff, o_callF, o_callN, o_guard, gk_tt, gk_ff, gk_tf, gk_ft, gk_u, t_op, t_alt, t_nil, o_nil, POp.ev, Opd.ev, EOp.ev, env0, gu, gv, setD, resV, List.set, List.map, List.map_nil, List.map_cons, Option.map_none, Option.map_some, Option.some.injEq, exists_eq_left', pickV, binV, convV, load1V, max2V, min2V, nilchkV, unV, boolEq, isNilV, fadV, extV, slenV, ne_eq, not_true_eq_false, if_false, if_true, ite_true, ite_false, Bool.false_eq_true, Bool.true_eq_false, beq_true, beq_false, beq_self_eq_true, Bool.not_true, Bool.not_false, reduceCtorEq, List.getElem?_toArray, List.getElem?_cons_zero, List.getElem?_cons_succ]
      exact ⟨trivial, trivial, hx⟩
    refine s_skip1 ?_
    simp +decide only [p_seq_normal, p_seq_ret, p_seq_exit, p_block_normal, p_block_ret, p_block_exit, p_fin_ret, p_fin_normal, reduceIte, Nat.reduceEqDiff, resV, resOne, resL, gv, Option.some.injEq, exists_eq_left', Option.bind_some, Option.map_some, List.getD_cons_zero, List.getD_cons_succ]
    replace hv := hv.keep hx11'
    replace hw := hw.ext hx11'
    replace hg := hg.ext hx11'
    replace hxo := hxo.ext hx11'
    replace hlo2 := hlo2.ext hx11'
    rw [← hx11'.blk _ (by omega)] at hbw9 hbx9 hbp9 hbg9
    have hn11'' := hx11'.next
    replace hxa := hxa.trans hx11'
    -- the copy is written over
    refine s_reg ?_
    simp only [o_cont, o_callT, callV_fn, o_pure, o_eff, o_callF, o_callN, o_guard, gk_tt, gk_ff, gk_tf, gk_ft, gk_u, t_op, t_alt, t_nil, o_nil, POp.ev, Opd.ev, EOp.ev, env0, gu, gv, setD, resV, List.set, List.map, List.map_nil, List.map_cons, Option.map_none, Option.map_some, Option.some.injEq, exists_eq_left', pickV, binV, convV, load1V, max2V, min2V, nilchkV, unV, boolEq, isNilV, fadV, extV, slenV, ne_eq, not_true_eq_false, if_false, if_true, ite_true, ite_false, Bool.false_eq_true, Bool.true_eq_false, beq_true, beq_false, beq_self_eq_true, Bool.not_true, Bool.not_false, reduceCtorEq, List.getElem?_toArray, List.getElem?_cons_zero, List.getElem?_cons_succ]
    refine s_reg ?_
    simp only [o_cont, o_callT, callV_fn, o_pure, o_eff, o_callF, o_callN, o_guard, gk_tt, gk_ff, gk_tf, gk_ft, gk_u, t_op, t_alt, t_nil, o_nil, POp.ev, Opd.ev, EOp.ev, env0, gu, gv, setD, resV, List.set, List.map, List.map_nil, List.map_cons, Option.map_none, Option.map_some, Option.some.injEq, exists_eq_left', pickV, binV, convV, load1V, max2V, min2V, nilchkV, unV, boolEq, isNilV, fadV, extV, slenV, ne_eq, not_true_eq_false, if_false, if_true, ite_true, ite_false, Bool.false_eq_true, Bool.true_eq_false, beq_true, beq_false, beq_self_eq_true, Bool.not_true, Bool.not_false, reduceCtorEq, List.getElem?_toArray, List.getElem?_cons_zero, List.getElem?_cons_succ, load3 hbx9]
    refine (markBox_ok lim _ _ _ _ 101 _ _ _ (by omega) (by omega) (by omega) hxo (by omega) (by omega) (by omega) (by omega)).mono ?_
    rintro _ H12 ⟨rfl, hxo2, hout⟩
    simp only [o_cont, o_callT, callV_fn, o_pure, o_eff, o_callF, o_callN, o_guard, gk_tt, gk_ff, gk_tf, gk_ft, gk_u, t_op, t_alt, t_nil, o_nil, POp.ev, Opd.ev, EOp.ev, env0, gu, gv, setD, resV, List.set, List.map, List.map_nil, List.map_cons, Option.map_none, Option.map_some, Option.some.injEq, exists_eq_left', pickV, binV, convV, load1V, max2V, min2V, nilchkV, unV, boolEq, isNilV, fadV, extV, slenV, ne_eq, not_true_eq_false, if_false, if_true, ite_true, ite_false, Bool.false_eq_true, Bool.true_eq_false, beq_true, beq_false, beq_self_eq_true, Bool.not_true, Bool.not_false, reduceCtorEq, List.getElem?_toArray, List.getElem?_cons_zero, List.getElem?_cons_succ]
    have hn12' := hout.next
    have hw12 := hw.out hout (.inl (by omega))
    have hg12 := hg.out hout (.inr (by omega))
    have hbw12 := hbw9
    rw [← hout.blk _ (by omega) (by omega)] at hbw12
    have hbg12 := hbg9
    rw [← hout.blk _ (by omega) (by omega)] at hbg12
    have hbp12 := hbp9
    rw [← hout.blk _ (by omega) (by omega)] at hbp12
    -- the copied list is written over too
    have hlv : VecI H12 bo2 vo2 ord := by
      have hb12 : H12.blk bo2 = H11'.blk bo2 := hout.blk _ hlo2.2.1 (.inr (by omega))
      exact hlo2.vec.keep hout.next (fun _ => hb12)
    have hxb' : Ext H H12 := hout.ext hxa (by omega)
    refine s_reg ?_
    simp only [o_cont, o_callT, callV_fn, o_pure, o_eff, o_callF, o_callN, o_guard, gk_tt, gk_ff, gk_tf, gk_ft, gk_u, t_op, t_alt, t_nil, o_nil, POp.ev, Opd.ev, EOp.ev, env0, gu, gv, setD, resV, List.set, List.map, List.map_nil, List.map_cons, Option.map_none, Option.map_some, Option.some.injEq, exists_eq_left', pickV, binV, convV, load1V, max2V, min2V, nilchkV, unV, boolEq, isNilV, fadV, extV, slenV, ne_eq, not_true_eq_false, if_false, if_true, ite_true, ite_false, Bool.false_eq_true, Bool.true_eq_false, beq_true, beq_false, beq_self_eq_true, Bool.not_true, Bool.not_false, reduceCtorEq, List.getElem?_toArray, List.getElem?_cons_zero, List.getElem?_cons_succ]
    refine (markIntS_ok lim bo2 _ ord _ _ (by omega) hlv (by omega) (by omega) (by omega)).mono ?_
    rintro _ H12' ⟨rfl, _, hchg, hnx12⟩
    simp only [o_cont, o_callT, callV_fn, o_pure, o_eff, o_callF, o_callN, o_guard, gk_tt, gk_ff, gk_tf, gk_ft, gk_u, t_op, t_alt, t_nil, o_nil, POp.ev, Opd.ev, EOp.ev, env0, gu, gv, setD, resV, List.set, List.map, List.map_nil, List.map_cons, Option.map_none, Option.map_some, Option.some.injEq, exists_eq_left', pickV, binV, convV, load1V, max2V, min2V, nilchkV, unV, boolEq, isNilV, fadV, extV, slenV, ne_eq, not_true_eq_false, if_false, if_true, ite_true, ite_false, Bool.false_eq_true, Bool.true_eq_false, beq_true, beq_false, beq_self_eq_true, Bool.not_true, Bool.not_false, reduceCtorEq, List.getElem?_toArray, List.getElem?_cons_zero, List.getElem?_cons_succ]
    replace hw12 := hw12.out (Out.of_chg (lo := bo2) (hi := bo2 + 1) hchg (Nat.le_refl _) (Nat.lt_succ_self _)) (.inl (by omega))
    replace hg12 := hg12.out (Out.of_chg (lo := bo2) (hi := bo2 + 1) hchg (Nat.le_refl _) (Nat.lt_succ_self _)) (.inr (by omega))
    rw [← hchg.blk _ (by omega) (by omega)] at hbw12 hbg12 hbp12
    have hxb : Ext H H12' := hchg.ext hxb' (by omega)
    generalize H12' = H12 at *
    have hv12 : BoxV H12 (.agg #[.int .i64 k, s, t]) k low high := (show BoxV H _ k low high from ⟨s, t, rfl, hs, ht⟩).keep hxb
    have hneg : decide ((101 : Int) + low.length + high.length + ord.length < 0) = false := by simp; omega
    refine s_test_I false (Ext H12) ?_ (fun H13 hx13 hg0 => by cases hg0) (fun H13 hx13 _ => ?_)
    · simp only [o_cont, o_callT, callV_fn, o_pure, o_eff, o_callF, o_callN, o_guard, gk_tt, gk_ff, gk_tf, gk_ft, gk_u, t_op, t_alt, t_nil, o_nil, POp.ev, Opd.ev, EOp.ev, env0, gu, gv, setD, resV, List.set, List.map, List.map_nil, List.map_cons, Option.map_none, Option.map_some, Option.some.injEq, exists_eq_left', pickV, binV, convV, load1V, max2V, min2V, nilchkV, unV, boolEq, isNilV, fadV, extV, slenV, ne_eq, not_true_eq_false, if_false, if_true, ite_true, ite_false, Bool.false_eq_true, Bool.true_eq_false, beq_true, beq_false, beq_self_eq_true, Bool.not_true, Bool.not_false, reduceCtorEq, List.getElem?_toArray, List.getElem?_cons_zero, List.getElem?_cons_succ, hneg, load3 hbg12, load3 hbw12]
      refine (eqBox_ok lim _ _ _ _ _ _ _ _ _ (by omega) hg12.boxV hw12.boxV (by omega) (by omega) ⟨rfl, rfl, rfl⟩).mono ?_
      rintro _ H' ⟨rfl, hx⟩
      simp only [o_cont, o_callT, callV_fn, o_pure, o_eff, o_callF, o_callN, o_guard, gk_tt, gk_ff, gk_tf, gk_ft, gk_u, t_op, t_alt, t_nil, o_nil, POp.ev, Opd.ev, EOp.ev, env0, gu, gv, setD, resV, List.set, List.map, List.map_nil, List.map_cons, Option.map_none, Option.map_some, Option.some.injEq, exists_eq_left', pickV, binV, convV, load1V, max2V, min2V, nilchkV, unV, boolEq, isNilV, fadV, extV, slenV, ne_eq, not_true_eq_false, if_false, if_true, ite_true, ite_false, Bool.false_eq_true, Bool.true_eq_false, beq_true, beq_false, beq_self_eq_true, Bool.not_true, Bool.not_false, reduceCtorEq, List.getElem?_toArray, List.getElem?_cons_zero, List.getElem?_cons_succ, hne2]
      exact ⟨trivial, trivial, hx⟩
    refine s_skip1 ?_
    simp +decide only [p_seq_normal, p_seq_ret, p_seq_exit, p_block_normal, p_block_ret, p_block_exit, p_fin_ret, p_fin_normal, reduceIte, Nat.reduceEqDiff, resV, resOne, resL, gv, Option.some.injEq, exists_eq_left', Option.bind_some, Option.map_some, List.getD_cons_zero, List.getD_cons_succ]
    have hn13' := hx13.next
    have hg13 := hg12.ext hx13
    have hw13 := hw12.ext hx13
    rw [← hx13.blk _ (by omega)] at hbw12 hbg12 hbp12
    -- the answer is written over, and holds what was written
    refine s_reg ?_
    simp only [o_cont, o_callT, callV_fn, o_pure, o_eff, o_callF, o_callN, o_guard, gk_tt, gk_ff, gk_tf, gk_ft, gk_u, t_op, t_alt, t_nil, o_nil, POp.ev, Opd.ev, EOp.ev, env0, gu, gv, setD, resV, List.set, List.map, List.map_nil, List.map_cons, Option.map_none, Option.map_some, Option.some.injEq, exists_eq_left', pickV, binV, convV, load1V, max2V, min2V, nilchkV, unV, boolEq, isNilV, fadV, extV, slenV, ne_eq, not_true_eq_false, if_false, if_true, ite_true, ite_false, Bool.false_eq_true, Bool.true_eq_false, beq_true, beq_false, beq_self_eq_true, Bool.not_true, Bool.not_false, reduceCtorEq, List.getElem?_toArray, List.getElem?_cons_zero, List.getElem?_cons_succ]
    refine s_reg ?_
    simp only [o_cont, o_callT, callV_fn, o_pure, o_eff, o_callF, o_callN, o_guard, gk_tt, gk_ff, gk_tf, gk_ft, gk_u, t_op, t_alt, t_nil, o_nil, POp.ev, Opd.ev, EOp.ev, env0, gu, gv, setD, resV, List.set, List.map, List.map_nil, List.map_cons, Option.map_none, Option.map_some, Option.some.injEq, exists_eq_left', pickV, binV, convV, load1V, max2V, min2V, nilchkV, unV, boolEq, isNilV, fadV, extV, slenV, ne_eq, not_true_eq_false, if_false, if_true, ite_true, ite_false, Bool.false_eq_true, Bool.true_eq_false, beq_true, beq_false, beq_self_eq_true, Bool.not_true, Bool.not_false, reduceCtorEq, List.getElem?_toArray, List.getElem?_cons_zero, List.getElem?_cons_succ, load3 hbg12]
    refine (markBox_ok lim _ _ _ _ 101 _ _ _ (by omega) (by omega) (by omega) hg13 (by omega) (by omega) (by omega) (by omega)).mono ?_
    rintro _ H14 ⟨rfl, hg14, hout2⟩
    simp only [o_cont, o_callT, callV_fn, o_pure, o_eff, o_callF, o_callN, o_guard, gk_tt, gk_ff, gk_tf, gk_ft, gk_u, t_op, t_alt, t_nil, o_nil, POp.ev, Opd.ev, EOp.ev, env0, gu, gv, setD, resV, List.set, List.map, List.map_nil, List.map_cons, Option.map_none, Option.map_some, Option.some.injEq, exists_eq_left', pickV, binV, convV, load1V, max2V, min2V, nilchkV, unV, boolEq, isNilV, fadV, extV, slenV, ne_eq, not_true_eq_false, if_false, if_true, ite_true, ite_false, Bool.false_eq_true, Bool.true_eq_false, beq_true, beq_false, beq_self_eq_true, Bool.not_true, Bool.not_false, reduceCtorEq, List.getElem?_toArray, List.getElem?_cons_zero, List.getElem?_cons_succ]
    have hn14' := hout2.next
    have hw14 := hw13.out hout2 (.inl (by omega))
    rw [← hout2.blk _ (by omega) (by omega)] at hbw12 hbg12 hbp12
    have hxc : Ext H H14 := hout2.ext (hxb.trans hx13) (by omega)
    refine s_reg ?_
    simp only [o_cont, o_callT, callV_fn, o_pure, o_eff, o_callF, o_callN, o_guard, gk_tt, gk_ff, gk_tf, gk_ft, gk_u, t_op, t_alt, t_nil, o_nil, POp.ev, Opd.ev, EOp.ev, env0, gu, gv, setD, resV, List.set, List.map, List.map_nil, List.map_cons, Option.map_none, Option.map_some, Option.some.injEq, exists_eq_left', pickV, binV, convV, load1V, max2V, min2V, nilchkV, unV, boolEq, isNilV, fadV, extV, slenV, ne_eq, not_true_eq_false, if_false, if_true, ite_true, ite_false, Bool.false_eq_true, Bool.true_eq_false, beq_true, beq_false, beq_self_eq_true, Bool.not_true, Bool.not_false, reduceCtorEq, List.getElem?_toArray, List.getElem?_cons_zero, List.getElem?_cons_succ]
    refine s_reg ?_
    simp only [o_cont, o_callT, callV_fn, o_pure, o_eff, o_callF, o_callN, o_guard, gk_tt, gk_ff, gk_tf, gk_ft, gk_u, t_op, t_alt, t_nil, o_nil, POp.ev, Opd.ev, EOp.ev, env0, gu, gv, setD, resV, List.set, List.map, List.map_nil, List.map_cons, Option.map_none, Option.map_some, Option.some.injEq, exists_eq_left', pickV, binV, convV, load1V, max2V, min2V, nilchkV, unV, boolEq, isNilV, fadV, extV, slenV, ne_eq, not_true_eq_false, if_false, if_true, ite_true, ite_false, Bool.false_eq_true, Bool.true_eq_false, beq_true, beq_false, beq_self_eq_true, Bool.not_true, Bool.not_false, reduceCtorEq, List.getElem?_toArray, List.getElem?_cons_zero, List.getElem?_cons_succ, load3 hbg12]
    refine (heldBox_ok lim _ _ 101 _ _ _ (by omega) hg14.boxV (by omega) (by omega) (by omega) (by omega)).mono ?_
    rintro _ H15 ⟨rfl, hx15⟩
    simp only [o_cont, o_callT, callV_fn, o_pure, o_eff, o_callF, o_callN, o_guard, gk_tt, gk_ff, gk_tf, gk_ft, gk_u, t_op, t_alt, t_nil, o_nil, POp.ev, Opd.ev, EOp.ev, env0, gu, gv, setD, resV, List.set, List.map, List.map_nil, List.map_cons, Option.map_none, Option.map_some, Option.some.injEq, exists_eq_left', pickV, binV, convV, load1V, max2V, min2V, nilchkV, unV, boolEq, isNilV, fadV, extV, slenV, ne_eq, not_true_eq_false, if_false, if_true, ite_true, ite_false, Bool.false_eq_true, Bool.true_eq_false, beq_true, beq_false, beq_self_eq_true, Bool.not_true, Bool.not_false, reduceCtorEq, List.getElem?_toArray, List.getElem?_cons_zero, List.getElem?_cons_succ]
    have hn15' := hx15.next
    have hneg2 : decide ((101 : Int) + wl.length + wh.length < 0) = false := by simp; omega
    have heq : ((101 : Int) + wl.length + wh.length != 101 + wl.length + wh.length) = false := by simp
    refine s_test ?_
    simp only [o_cont, o_callT, callV_fn, o_pure, o_eff, o_callF, o_callN, o_guard, gk_tt, gk_ff, gk_tf, gk_ft, gk_u, t_op, t_alt, t_nil, o_nil, POp.ev, Opd.ev, EOp.ev, env0, gu, gv, setD, resV, List.set, List.map, List.map_nil, List.map_cons, Option.map_none, Option.map_some, Option.some.injEq, exists_eq_left', pickV, binV, convV, load1V, max2V, min2V, nilchkV, unV, boolEq, isNilV, fadV, extV, slenV, ne_eq, not_true_eq_false, if_false, if_true, ite_true, ite_false, Bool.false_eq_true, Bool.true_eq_false, beq_true, beq_false, beq_self_eq_true, Bool.not_true, Bool.not_false, reduceCtorEq, List.getElem?_toArray, List.getElem?_cons_zero, List.getElem?_cons_succ, hneg2]
    refine Test.false_ (s_skip1 ?_)
    simp +decide only [p_seq_normal, p_seq_ret, p_seq_exit, p_block_normal, p_block_ret, p_block_exit, p_fin_ret, p_fin_normal, reduceIte, Nat.reduceEqDiff, resV, resOne, resL, gv, Option.some.injEq, exists_eq_left', Option.bind_some, Option.map_some, List.getD_cons_zero, List.getD_cons_succ]
    refine s_test ?_
    simp only [o_cont, o_callT, callV_fn, o_pure, o_eff, o_callF, o_callN, o_guard, gk_tt, gk_ff, gk_tf, gk_ft, gk_u, t_op, t_alt, t_nil, o_nil, POp.ev, Opd.ev, EOp.ev, env0, gu, gv, setD, resV, List.set, List.map, List.map_nil, List.map_cons, Option.map_none, Option.map_some, Option.some.injEq, exists_eq_left', pickV, binV, convV, load1V, max2V, min2V, nilchkV, unV, boolEq, isNilV, fadV, extV, slenV, ne_eq, not_true_eq_false, if_false, if_true, ite_true, ite_false, Bool.false_eq_true, Bool.true_eq_false, beq_true, beq_false, beq_self_eq_true, Bool.not_true, Bool.not_false, reduceCtorEq, List.getElem?_toArray, List.getElem?_cons_zero, List.getElem?_cons_succ, heq]
    refine Test.false_ (s_skip1 ?_)
    simp +decide only [p_seq_normal, p_seq_ret, p_seq_exit, p_block_normal, p_block_ret, p_block_exit, p_fin_ret, p_fin_normal, reduceIte, Nat.reduceEqDiff, resV, resOne, resL, gv, Option.some.injEq, exists_eq_left', Option.bind_some, Option.map_some, List.getD_cons_zero, List.getD_cons_succ]
    have hg15 := hg14.ext hx15
    have hw15 := hw14.ext hx15
    rw [← hx15.blk _ (by omega)] at hbw12 hbg12 hbp12
    have hv15 : BoxV H15 (.agg #[.int .i64 k, s, t]) k low high := (show BoxV H _ k low high from ⟨s, t, rfl, hs, ht⟩).keep (hxc.trans hx15)
    -- once more, on a bare copy
    refine s_reg ?_
    simp only [o_cont, o_callT, callV_fn, o_pure, o_eff, o_callF, o_callN, o_guard, gk_tt, gk_ff, gk_tf, gk_ft, gk_u, t_op, t_alt, t_nil, o_nil, POp.ev, Opd.ev, EOp.ev, env0, gu, gv, setD, resV, List.set, List.map, List.map_nil, List.map_cons, Option.map_none, Option.map_some, Option.some.injEq, exists_eq_left', pickV, binV, convV, load1V, max2V, min2V, nilchkV, unV, boolEq, isNilV, fadV, extV, slenV, ne_eq, not_true_eq_false, if_false, if_true, ite_true, ite_false, Bool.false_eq_true, Bool.true_eq_false, beq_true, beq_false, beq_self_eq_true, Bool.not_true, Bool.not_false, reduceCtorEq, List.getElem?_toArray, List.getElem?_cons_zero, List.getElem?_cons_succ, load3 hbp12]
    refine (toBox_ok lim _ _ _ _ true _ (by omega) hv15 (by omega) (by omega)).mono ?_
    rintro _ H16 ⟨s3, t3, b3, c3, rfl, hb3, hc3, hbc3, hcs3, hct3, hx16⟩
    have hn16' := hx16.next
    simp only [o_cont, o_callT, callV_fn, o_pure, o_eff, o_callF, o_callN, o_guard, gk_tt, gk_ff, gk_tf, gk_ft, gk_u, t_op, t_alt, t_nil, o_nil, POp.ev, Opd.ev, EOp.ev, env0, gu, gv, setD, resV, List.set, List.map, List.map_nil, List.map_cons, Option.map_none, Option.map_some, Option.some.injEq, exists_eq_left', pickV, binV, convV, load1V, max2V, min2V, nilchkV, unV, boolEq, isNilV, fadV, extV, slenV, ne_eq, not_true_eq_false, if_false, if_true, ite_true, ite_false, Bool.false_eq_true, Bool.true_eq_false, beq_true, beq_false, beq_self_eq_true, Bool.not_true, Bool.not_false, reduceCtorEq, List.getElem?_toArray, List.getElem?_cons_zero, List.getElem?_cons_succ]
    have ho16 : SlI H16 o ord := ho.keep (Keep.of_ext ((hxc.trans hx15).trans hx16) (Nat.le_refl _)) (Nat.le_refl _)
    refine (copyI_ok lim o ord true _ (by omega) ho16 (by omega)).mono ?_
    rintro vo6 H16' ⟨⟨bo6, hbo6, hco6⟩, hx16'⟩
    replace hcs3 := hcs3.ext hx16'
    replace hct3 := hct3.ext hx16'
    have hn16'' := hx16'.next
    replace hx16 := hx16.trans hx16'
    simp only [o_cont, o_callT, callV_fn, o_pure, o_eff, o_callF, o_callN, o_guard, gk_tt, gk_ff, gk_tf, gk_ft, gk_u, t_op, t_alt, t_nil, o_nil, POp.ev, Opd.ev, EOp.ev, env0, gu, gv, setD, resV, List.set, List.map, List.map_nil, List.map_cons, Option.map_none, Option.map_some, Option.some.injEq, exists_eq_left', pickV, binV, convV, load1V, max2V, min2V, nilchkV, unV, boolEq, isNilV, fadV, extV, slenV, ne_eq, not_true_eq_false, if_false, if_true, ite_true, ite_false, Bool.false_eq_true, Bool.true_eq_false, beq_true, beq_false, beq_self_eq_true, Bool.not_true, Bool.not_false, reduceCtorEq, List.getElem?_toArray, List.getElem?_cons_zero, List.getElem?_cons_succ]
    refine (iExchange_ok lim _ _ k low high ord H16' (by omega) ⟨s3, t3, rfl, hcs3.sl, hct3.sl⟩ hco6.sl (by omega) (by omega) (by omega)).mono ?_
    rintro _ H17 ⟨hR, hx17⟩
    have hn17' := hx17.next
    rw [hok] at hR
    obtain ⟨h, rfl, hh⟩ := BoxR.boxO (r := (excB k ord low high).2) hR (fun h => by have := hlen (hok.trans h); omega)
    rw [hpk] at hh
    simp only at hh
    clear hR
    obtain ⟨hs', ht', rfl⟩ := hh.cells
    simp only [o_cont, o_callT, callV_fn, o_pure, o_eff, o_callF, o_callN, o_guard, gk_tt, gk_ff, gk_tf, gk_ft, gk_u, t_op, t_alt, t_nil, o_nil, POp.ev, Opd.ev, EOp.ev, env0, gu, gv, setD, resV, List.set, List.map, List.map_nil, List.map_cons, Option.map_none, Option.map_some, Option.some.injEq, exists_eq_left', pickV, binV, convV, load1V, max2V, min2V, nilchkV, unV, boolEq, isNilV, fadV, extV, slenV, ne_eq, not_true_eq_false, if_false, if_true, ite_true, ite_false, Bool.false_eq_true, Bool.true_eq_false, beq_true, beq_false, beq_self_eq_true, Bool.not_true, Bool.not_false, reduceCtorEq, List.getElem?_toArray, List.getElem?_cons_zero, List.getElem?_cons_succ, store3_new (lim := lim) (H := H17) (by omega)]
    have hx18 : Ext H17 (H17.alloc [.int .i64 wk, hs', ht']) := Ext.alloc _ _
    have hbh : (H17.alloc [.int .i64 wk, hs', ht']).blk H17.next = some [.int .i64 wk, hs', ht'] := alloc_new _ _
    have hn18' : (H17.alloc [.int .i64 wk, hs', ht']).next = H17.next + 1 := rfl
    have hxd := (hx16.trans hx17).trans hx18
    have hg18 := hg15.ext hxd
    have hw18 := hw15.ext hxd
    have hh18 := hh.ext hx18
    rw [← hxd.blk _ (by omega)] at hbw12 hbg12
    generalize H17.alloc [.int .i64 wk, hs', ht'] = H18 at hx18 hbh hn18' hxd hg18 hw18 hh18 hbw12 hbg12 ⊢
    refine s_test_I false (Ext H18) ?_ (fun H19 hx19 hg0 => by cases hg0) (fun H19 hx19 _ => ?_)
    · simp only [o_cont, o_callT, callV_fn, o_pure, o_eff, o_callF, o_callN, o_guard, gk_tt, gk_ff, gk_tf, gk_ft, gk_u, t_op, t_alt, t_nil, o_nil, POp.ev, Opd.ev, EOp.ev, env0, gu, gv, setD, resV, List.set, List.map, List.map_nil, List.map_cons, Option.map_none, Option.map_some, Option.some.injEq, exists_eq_left', pickV, binV, convV, load1V, max2V, min2V, nilchkV, unV, boolEq, isNilV, fadV, extV, slenV, ne_eq, not_true_eq_false, if_false, if_true, ite_true, ite_false, Bool.false_eq_true, Bool.true_eq_false, beq_true, beq_false, beq_self_eq_true, Bool.not_true, Bool.not_false, reduceCtorEq, List.getElem?_toArray, List.getElem?_cons_zero, List.getElem?_cons_succ, load3 hbh, load3 hbw12]
      refine (eqBox_ok lim _ _ _ _ _ _ _ _ _ (by omega) hh18.boxV hw18.boxV (by omega) (by omega) ⟨rfl, rfl, rfl⟩).mono ?_
      rintro _ H' ⟨rfl, hx⟩
      simp only [o_cont, o_callT, callV_fn, o_pure, o_eff, o_callF, o_callN, o_guard, gk_tt, gk_ff, gk_tf, gk_ft, gk_u, t_op, t_alt, t_nil, o_nil, POp.ev, Opd.ev, EOp.ev, env0, gu, gv, setD, resV, List.set, List.map, List.map_nil, List.map_cons, Option.map_none, Option.map_some, Option.some.injEq, exists_eq_left', pickV, binV, convV, load1V, max2V, min2V, nilchkV, unV, boolEq, isNilV, fadV, extV, slenV, ne_eq, not_true_eq_false, if_false, if_true, ite_true, ite_false, Bool.false_eq_true, Bool.true_eq_false, beq_true, beq_false, beq_self_eq_true, Bool.not_true, Bool.not_false, reduceCtorEq, List.getElem?_toArray, List.getElem?_cons_zero, List.getElem?_cons_succ, hne2]
      exact ⟨trivial, trivial, hx⟩
    refine s_skip1 ?_
    simp +decide only [p_seq_normal, p_seq_ret, p_seq_exit, p_block_normal, p_block_ret, p_block_exit, p_fin_ret, p_fin_normal, reduceIte, Nat.reduceEqDiff, resV, resOne, resL, gv, Option.some.injEq, exists_eq_left', Option.bind_some, Option.map_some, List.getD_cons_zero, List.getD_cons_succ]
    have hn19' := hx19.next
    have hg19 := hg18.ext hx19
    rw [← hx19.blk _ (by omega)] at hbg12
    refine s_reg ?_
    simp only [o_cont, o_callT, callV_fn, o_pure, o_eff, o_callF, o_callN, o_guard, gk_tt, gk_ff, gk_tf, gk_ft, gk_u, t_op, t_alt, t_nil, o_nil, POp.ev, Opd.ev, EOp.ev, env0, gu, gv, setD, resV, List.set, List.map, List.map_nil, List.map_cons, Option.map_none, Option.map_some, Option.some.injEq, exists_eq_left', pickV, binV, convV, load1V, max2V, min2V, nilchkV, unV, boolEq, isNilV, fadV, extV, slenV, ne_eq, not_true_eq_false, if_false, if_true, ite_true, ite_false, Bool.false_eq_true, Bool.true_eq_false, beq_true, beq_false, beq_self_eq_true, Bool.not_true, Bool.not_false, reduceCtorEq, List.getElem?_toArray, List.getElem?_cons_zero, List.getElem?_cons_succ]
    refine s_reg ?_
    simp only [o_cont, o_callT, callV_fn, o_pure, o_eff, o_callF, o_callN, o_guard, gk_tt, gk_ff, gk_tf, gk_ft, gk_u, t_op, t_alt, t_nil, o_nil, POp.ev, Opd.ev, EOp.ev, env0, gu, gv, setD, resV, List.set, List.map, List.map_nil, List.map_cons, Option.map_none, Option.map_some, Option.some.injEq, exists_eq_left', pickV, binV, convV, load1V, max2V, min2V, nilchkV, unV, boolEq, isNilV, fadV, extV, slenV, ne_eq, not_true_eq_false, if_false, if_true, ite_true, ite_false, Bool.false_eq_true, Bool.true_eq_false, beq_true, beq_false, beq_self_eq_true, Bool.not_true, Bool.not_false, reduceCtorEq, List.getElem?_toArray, List.getElem?_cons_zero, List.getElem?_cons_succ, load3 hbg12]
    refine (heldBox_ok lim _ _ 101 _ _ _ (by omega) hg19.boxV (by omega) (by omega) (by omega) (by omega)).mono ?_
    rintro _ H20 ⟨rfl, hx20⟩
    simp only [o_cont, o_callT, callV_fn, o_pure, o_eff, o_callF, o_callN, o_guard, gk_tt, gk_ff, gk_tf, gk_ft, gk_u, t_op, t_alt, t_nil, o_nil, POp.ev, Opd.ev, EOp.ev, env0, gu, gv, setD, resV, List.set, List.map, List.map_nil, List.map_cons, Option.map_none, Option.map_some, Option.some.injEq, exists_eq_left', pickV, binV, convV, load1V, max2V, min2V, nilchkV, unV, boolEq, isNilV, fadV, extV, slenV, ne_eq, not_true_eq_false, if_false, if_true, ite_true, ite_false, Bool.false_eq_true, Bool.true_eq_false, beq_true, beq_false, beq_self_eq_true, Bool.not_true, Bool.not_false, reduceCtorEq, List.getElem?_toArray, List.getElem?_cons_zero, List.getElem?_cons_succ]
    refine s_test ?_
    simp only [o_cont, o_callT, callV_fn, o_pure, o_eff, o_callF, o_callN, o_guard, gk_tt, gk_ff, gk_tf, gk_ft, gk_u, t_op, t_alt, t_nil, o_nil, POp.ev, Opd.ev, EOp.ev, env0, gu, gv, setD, resV, List.set, List.map, List.map_nil, List.map_cons, Option.map_none, Option.map_some, Option.some.injEq, exists_eq_left', pickV, binV, convV, load1V, max2V, min2V, nilchkV, unV, boolEq, isNilV, fadV, extV, slenV, ne_eq, not_true_eq_false, if_false, if_true, ite_true, ite_false, Bool.false_eq_true, Bool.true_eq_false, beq_true, beq_false, beq_self_eq_true, Bool.not_true, Bool.not_false, reduceCtorEq, List.getElem?_toArray, List.getElem?_cons_zero, List.getElem?_cons_succ, hneg2]
    refine Test.false_ (s_skip1 ?_)
    simp +decide only [p_seq_normal, p_seq_ret, p_seq_exit, p_block_normal, p_block_ret, p_block_exit, p_fin_ret, p_fin_normal, reduceIte, Nat.reduceEqDiff, resV, resOne, resL, gv, Option.some.injEq, exists_eq_left', Option.bind_some, Option.map_some, List.getD_cons_zero, List.getD_cons_succ]
    refine s_test ?_
    simp only [o_cont, o_callT, callV_fn, o_pure, o_eff, o_callF, o_callN, o_guard, gk_tt, gk_ff, gk_tf, gk_ft, gk_u, t_op, t_alt, t_nil, o_nil, POp.ev, Opd.ev, EOp.ev, env0, gu, gv, setD, resV, List.set, List.map, List.map_nil, List.map_cons, Option.map_none, Option.map_some, Option.some.injEq, exists_eq_left', pickV, binV, convV, load1V, max2V, min2V, nilchkV, unV, boolEq, isNilV, fadV, extV, slenV, ne_eq, not_true_eq_false, if_false, if_true, ite_true, ite_false, Bool.false_eq_true, Bool.true_eq_false, beq_true, beq_false, beq_self_eq_true, Bool.not_true, Bool.not_false, reduceCtorEq, List.getElem?_toArray, List.getElem?_cons_zero, List.getElem?_cons_succ, heq]
    refine Test.false_ (s_skip1 ?_)
    simp +decide only [p_seq_normal, p_seq_ret, p_seq_exit, p_block_normal, p_block_ret, p_block_exit, p_fin_ret, p_fin_normal, reduceIte, Nat.reduceEqDiff, resV, resOne, resL, gv, Option.some.injEq, exists_eq_left', Option.bind_some, Option.map_some, List.getD_cons_zero, List.getD_cons_succ]
    refine s_reg ?_
    simp only [o_cont, o_callT, callV_fn, o_pure, o_eff, o_callF, o_callN, o_guard, gk_tt, gk_ff, gk_tf, gk_ft, gk_u, t_op, t_alt, t_nil, o_nil, POp.ev, Opd.ev, EOp.ev, env0, gu, gv, setD, resV, List.set, List.map, List.map_nil, List.map_cons, Option.map_none, Option.map_some, Option.some.injEq, exists_eq_left', pickV, binV, convV, load1V, max2V, min2V, nilchkV, unV, boolEq, isNilV, fadV, extV, slenV, ne_eq, not_true_eq_false, if_false, if_true, ite_true, ite_false, Bool.false_eq_true, Bool.true_eq_false, beq_true, beq_false, beq_self_eq_true, Bool.not_true, Bool.not_false, reduceCtorEq, List.getElem?_toArray, List.getElem?_cons_zero, List.getElem?_cons_succ]
    refine s_ret1 ?_
    simp +decide only [p_seq_normal, p_seq_ret, p_seq_exit, p_block_normal, p_block_ret, p_block_exit, p_fin_ret, p_fin_normal, reduceIte, Nat.reduceEqDiff, resV, resOne, resL, gv, Option.some.injEq, exists_eq_left', Option.bind_some, Option.map_some, List.getD_cons_zero, List.getD_cons_succ]
end Go.Proofs.Ytfnjjkljpegoeaa
