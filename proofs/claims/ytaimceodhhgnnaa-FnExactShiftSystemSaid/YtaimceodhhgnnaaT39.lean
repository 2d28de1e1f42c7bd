/- ShiftSystem: the walk of the implementation's side; no condition beyond stated lengths. -/
import Derived.Test.YtaimceodhhgnnaaT38
namespace Go.Proofs.Ytaimceodhhgnnaa
open Go.Ab
set_option linter.unusedSimpArgs false
set_option linter.unusedVariables false

theorem aad_in {q n : Nat} {i : Nat} (h : i < n) : aadV n 1 (.pointer (some ⟨q, 0, none⟩)) (.int .i64 i) = some (.pointer (some ⟨q, i, none⟩)) := by
  simp [aadV, h]
theorem termOfG_ok (lim : Nat) (c x y z : Int) (H : AHeap) (hl : lim ≤ H.next) : ACalls Try.prog lim n_impl_termOf [.int .i64 c, .agg #[vi x, vi y, vi z]] H fun v H' => v = tv ⟨c, x, y, z⟩ ∧ Ext H H' := by
  refine is_impl_termOf.go rfl ?_
  unfold c_impl_termOf
  have hcv : cellsV (.agg #[vi x, vi y, vi z]) = some [vi x, vi y, vi z] := rfl
  refine s_reg ?_
  simp only [o_cont, o_callT, callV_fn, o_pure, o_eff, o_callF, o_callN, o_guard, gk_tt, gk_ff, gk_tf, gk_ft, gk_u, t_op, t_alt, t_nil, o_nil, POp.ev, Opd.ev, EOp.ev, env0, gu, gv, setD, resV, List.set, List.map, List.map_nil, List.map_cons, Option.map_none, Option.map_some, Option.some.injEq, exists_eq_left', pickV, binV, convV, load1V, max2V, min2V, nilchkV, unV, boolEq, isNilV, fadV, extV, slenV, ne_eq, not_true_eq_false, if_false, if_true, ite_true, ite_false, Bool.false_eq_true, Bool.true_eq_false, beq_true, beq_false, beq_self_eq_true, Bool.not_true, Bool.not_false, reduceCtorEq, List.getElem?_toArray, List.getElem?_cons_zero, List.getElem?_cons_succ, boxH, hcv]
  have hx1 := Ext.alloc H [vi x, vi y, vi z]
  have hp : (H.alloc [vi x, vi y, vi z]).blk H.next = some [vi x, vi y, vi z] := alloc_new _ _
  have hnp : (H.alloc [vi x, vi y, vi z]).next = H.next + 1 := rfl
  generalize H.alloc [vi x, vi y, vi z] = H1 at hx1 hp hnp ⊢
  have hx2 := Ext.alloc H1 [.int .i64 0, .int .i64 0, .int .i64 0, .int .i64 0]
  have hr : (H1.alloc [.int .i64 0, .int .i64 0, .int .i64 0, .int .i64 0]).blk H1.next = some [.int .i64 0, .int .i64 0, .int .i64 0, .int .i64 0] := alloc_new _ _
  rw [← hx2.blk _ (by omega)] at hp
  replace hx1 := hx1.trans hx2
  generalize H1.alloc [.int .i64 0, .int .i64 0, .int .i64 0, .int .i64 0] = H2 at hx1 hp hr ⊢
  generalize hre : H1.next = r at hr hnp ⊢
  generalize hpe : H.next = p at hp hnp hl ⊢
  have a0 : aadV 3 1 (.pointer (some ⟨p, 0, none⟩)) (.int .i64 0) = some (.pointer (some ⟨p, 0, none⟩)) := aad_in (i := 0) (by omega)
  have a1 : aadV 3 1 (.pointer (some ⟨p, 0, none⟩)) (.int .i64 1) = some (.pointer (some ⟨p, 1, none⟩)) := aad_in (i := 1) (by omega)
  have a2 : aadV 3 1 (.pointer (some ⟨p, 0, none⟩)) (.int .i64 2) = some (.pointer (some ⟨p, 2, none⟩)) := aad_in (i := 2) (by omega)
  have hst : storeH lim H2 4 (.pointer (some ⟨r, 0, none⟩)) (tv ⟨c, x, y, z⟩) = some (undef, H2.put r (tc ⟨c, x, y, z⟩)) := store4 (by omega) hr
  have hbv : ∀ l : List Value, l = tc ⟨c, x, y, z⟩ → Value.agg l.toArray = tv ⟨c, x, y, z⟩ := by rintro l rfl; rfl
  refine s_reg ?_
  simp only [o_cont, o_callT, callV_fn, o_pure, o_eff, o_callF, o_callN, o_guard, gk_tt, gk_ff, gk_tf, gk_ft, gk_u, t_op, t_alt, t_nil, o_nil, POp.ev, Opd.ev, EOp.ev, env0, gu, gv, setD, resV, List.set, List.map, List.map_nil, List.map_cons, Option.map_none, Option.map_some, Option.some.injEq, exists_eq_left', pickV, binV, convV, load1V, max2V, min2V, nilchkV, unV, boolEq, isNilV, fadV, extV, slenV, ne_eq, not_true_eq_false, if_false, if_true, ite_true, ite_false, Bool.false_eq_true, Bool.true_eq_false, beq_true, beq_false, beq_self_eq_true, Bool.not_true, Bool.not_false, reduceCtorEq, List.getElem?_toArray, List.getElem?_cons_zero, List.getElem?_cons_succ, a0, a1, a2, cell_blk hp, bldT, hbv _ rfl, hst]
  refine s_ret1 ?_
  have hld : loadNV (H2.put r (tc ⟨c, x, y, z⟩)) 4 (.pointer (some ⟨r, 0, none⟩)) = some (tv ⟨c, x, y, z⟩) := load4 (put_same _ _ _)
  simp +decide only [p_seq_normal, p_seq_ret, p_seq_exit, p_block_normal, p_block_ret, p_block_exit, p_fin_ret, p_fin_normal, reduceIte, Nat.reduceEqDiff, resV, resOne, resL, gv, Option.some.injEq, exists_eq_left', Option.bind_some, Option.map_some, List.getD_cons_zero, List.getD_cons_succ, hld]
  exact ⟨trivial, Chg.ext hx1 (Chg.put _ _ _) (by omega)⟩

/-! ### the exponents of a term, as an array -/
def exL (t : Tm) : List Value := [vi t.x, vi t.y, vi t.z]
theorem exL_get (t : Tm) {k : Nat} (hk : k < 3) : (exL t)[k]? = some (vi (pw t k)) := by
  match k, hk with
  | 0, _ => rfl
  | 1, _ => rfl
  | 2, _ => rfl
theorem exL_set (t : Tm) {k : Nat} (hk : k < 3) (m : Int) : (exL t).set k (vi m) = exL (wi t k m) := by
  match k, hk with
  | 0, _ => rfl
  | 1, _ => rfl
  | 2, _ => rfl
theorem wi_c (t : Tm) (k m : Int) : (wi t k m).c = t.c := by
  unfold wi
  split
  · rfl
  · split <;> rfl
theorem bsliceTT (H : AHeap) (a b : Tm) : bsliceH H 2 [.int .i64 0, .int .i64 0, .int .i64 0, .int .i64 0, .int .i64 0, .int .i64 0, .int .i64 0, .int .i64 0] [(0, 4, tv a), (4, 4, tv b)] = some (.slice (some ⟨H.next, 0, some 0⟩) 2 2, H.alloc (tcs [a, b])) := by
  simp [bsliceH, fillV, cells_tv, tc, tcs, putL]
theorem sl_two (H : AHeap) (a b : Tm) : SlT (H.alloc (tcs [a, b])) (.slice (some ⟨H.next, 0, some 0⟩) 2 2) [a, b] :=
  Vec.sl (Vec.lit (H := H) (n := 2) (sz := 4) (cells := tcs [a, b]) rfl)

theorem shift1_ok (lim : Nat) (t : Tm) (qu qn k : Nat) (n : Int) (H : AHeap) (hl : lim ≤ H.next) (hqu : qu < H.next) (hqn : qn < H.next) (hcu : H.blk qu = some [vi k]) (hcn : H.blk qn = some [vi n]) (hk : k < 3) (hn : -8 ≤ n ∧ n ≤ 8) (ht : okTm t = true) (hc : t.c ≠ 0) :
    ACalls Try.prog lim n_impl_ShiftSystem_1 [tv t, .pointer (some ⟨qu, 0, none⟩), .pointer (some ⟨qn, 0, none⟩)] H fun v H' => SlT H' v (shT k n t) ∧ Ext H H' := by
  refine is_impl_ShiftSystem_1.go rfl ?_
  unfold c_impl_ShiftSystem_1
  have wn : IntKind.i64.wrap (0 - n) = -n := by rw [IntKind.wrap_i64]; omega
  have hpw := pw_small ht k
  obtain ⟨e, he⟩ : ∃ e : Nat, pw t k = e := ⟨(pw t k).toNat, by omega⟩
  have cu : ∀ G : AHeap, Ext H G → G.blk qu = some [vi k] := fun G h => by rw [h.blk _ hqu]; exact hcu
  have cn : ∀ G : AHeap, Ext H G → G.blk qn = some [vi n] := fun G h => by rw [h.blk _ hqn]; exact hcn
  refine s_reg ?_
  simp only [o_cont, o_callT, callV_fn, o_pure, o_eff, o_callF, o_callN, o_guard, gk_tt, gk_ff, gk_tf, gk_ft, gk_u, t_op, t_alt, t_nil, o_nil, POp.ev, Opd.ev, EOp.ev, env0, gu, gv, setD, resV, List.set, List.map, List.map_nil, List.map_cons, Option.map_none, Option.map_some, Option.some.injEq, exists_eq_left', pickV, binV, convV, load1V, max2V, min2V, nilchkV, unV, boolEq, isNilV, fadV, extV, slenV, ne_eq, not_true_eq_false, if_false, if_true, ite_true, ite_false, Bool.false_eq_true, Bool.true_eq_false, beq_true, beq_false, beq_self_eq_true, Bool.not_true, Bool.not_false, reduceCtorEq, List.getElem?_toArray, List.getElem?_cons_zero, List.getElem?_cons_succ, boxT]
  have hB := BoxT.mk' H t
  generalize H.alloc (tc t) = H1 at hB ⊢
  generalize hpe : H.next = p at hB hl hqu hqn ⊢
  have hge := hB.ge
  have hlt1 := hB.lt
  refine s_reg ?_
  simp only [o_cont, o_callT, callV_fn, o_pure, o_eff, o_callF, o_callN, o_guard, gk_tt, gk_ff, gk_tf, gk_ft, gk_u, t_op, t_alt, t_nil, o_nil, POp.ev, Opd.ev, EOp.ev, env0, gu, gv, setD, resV, List.set, List.map, List.map_nil, List.map_cons, Option.map_none, Option.map_some, Option.some.injEq, exists_eq_left', pickV, binV, convV, load1V, max2V, min2V, nilchkV, unV, boolEq, isNilV, fadV, extV, slenV, ne_eq, not_true_eq_false, if_false, if_true, ite_true, ite_false, Bool.false_eq_true, Bool.true_eq_false, beq_true, beq_false, beq_self_eq_true, Bool.not_true, Bool.not_false, reduceCtorEq, List.getElem?_toArray, List.getElem?_cons_zero, List.getElem?_cons_succ, hB.all]
  refine (exponents_ok lim t H1 (by omega)).mono ?_
  rintro _ H2 ⟨rfl, hx2⟩
  have hnx2 := hx2.next
  simp only [o_cont, o_callT, callV_fn, o_pure, o_eff, o_callF, o_callN, o_guard, gk_tt, gk_ff, gk_tf, gk_ft, gk_u, t_op, t_alt, t_nil, o_nil, POp.ev, Opd.ev, EOp.ev, env0, gu, gv, setD, resV, List.set, List.map, List.map_nil, List.map_cons, Option.map_none, Option.map_some, Option.some.injEq, exists_eq_left', pickV, binV, convV, load1V, max2V, min2V, nilchkV, unV, boolEq, isNilV, fadV, extV, slenV, ne_eq, not_true_eq_false, if_false, if_true, ite_true, ite_false, Bool.false_eq_true, Bool.true_eq_false, beq_true, beq_false, beq_self_eq_true, Bool.not_true, Bool.not_false, reduceCtorEq, List.getElem?_toArray, List.getElem?_cons_zero, List.getElem?_cons_succ]
  have hxa := Ext.alloc H2 [.int .i64 0, .int .i64 0, .int .i64 0]
  have hna : (H2.alloc [.int .i64 0, .int .i64 0, .int .i64 0]).next = H2.next + 1 := rfl
  have h5 : (H2.alloc [.int .i64 0, .int .i64 0, .int .i64 0]).blk H2.next = some [.int .i64 0, .int .i64 0, .int .i64 0] := alloc_new _ _
  generalize H2.alloc [.int .i64 0, .int .i64 0, .int .i64 0] = H3 at hxa hna h5 ⊢
  generalize hqe : H2.next = q at hxa hna h5 hnx2 ⊢
  have hst : storeH lim H3 3 (.pointer (some ⟨q, 0, none⟩)) (expV t) = some (undef, H3.put q (exL t)) := store3 (by omega) h5
  simp only [o_cont, o_callT, callV_fn, o_pure, o_eff, o_callF, o_callN, o_guard, gk_tt, gk_ff, gk_tf, gk_ft, gk_u, t_op, t_alt, t_nil, o_nil, POp.ev, Opd.ev, EOp.ev, env0, gu, gv, setD, resV, List.set, List.map, List.map_nil, List.map_cons, Option.map_none, Option.map_some, Option.some.injEq, exists_eq_left', pickV, binV, convV, load1V, max2V, min2V, nilchkV, unV, boolEq, isNilV, fadV, extV, slenV, ne_eq, not_true_eq_false, if_false, if_true, ite_true, ite_false, Bool.false_eq_true, Bool.true_eq_false, beq_true, beq_false, beq_self_eq_true, Bool.not_true, Bool.not_false, reduceCtorEq, List.getElem?_toArray, List.getElem?_cons_zero, List.getElem?_cons_succ, hst]
  have hB3 : BoxT H (H3.put q (exL t)) p t := ((hB.mono hx2).mono hxa).chg (Chg.put _ _ _) (by omega) (by omega)
  have h6 : (H3.put q (exL t)).blk q = some (exL t) := put_same _ _ _
  have hn6 : (H3.put q (exL t)).next = H3.next := rfl
  generalize H3.put q (exL t) = H4 at hB3 h6 hn6 ⊢
  clear hst h5 hxa hx2 hB
  have aad : aadV 3 1 (.pointer (some ⟨q, 0, none⟩)) (.int .i64 k) = some (.pointer (some ⟨q, k, none⟩)) := aad_in hk
  refine s_reg ?_
  simp only [o_cont, o_callT, callV_fn, o_pure, o_eff, o_callF, o_callN, o_guard, gk_tt, gk_ff, gk_tf, gk_ft, gk_u, t_op, t_alt, t_nil, o_nil, POp.ev, Opd.ev, EOp.ev, env0, gu, gv, setD, resV, List.set, List.map, List.map_nil, List.map_cons, Option.map_none, Option.map_some, Option.some.injEq, exists_eq_left', pickV, binV, convV, load1V, max2V, min2V, nilchkV, unV, boolEq, isNilV, fadV, extV, slenV, ne_eq, not_true_eq_false, if_false, if_true, ite_true, ite_false, Bool.false_eq_true, Bool.true_eq_false, beq_true, beq_false, beq_self_eq_true, Bool.not_true, Bool.not_false, reduceCtorEq, List.getElem?_toArray, List.getElem?_cons_zero, List.getElem?_cons_succ, cell_blk (cu _ hB3.ext), List.getElem?_cons_zero, aad, cell_blk h6, exL_get t hk, he]
  have st1 := store_int (lim := lim) .i64 0 (by omega) h6 (o := k) (by simpa [exL] using hk)
  refine s_reg ?_
  simp only [o_cont, o_callT, callV_fn, o_pure, o_eff, o_callF, o_callN, o_guard, gk_tt, gk_ff, gk_tf, gk_ft, gk_u, t_op, t_alt, t_nil, o_nil, POp.ev, Opd.ev, EOp.ev, env0, gu, gv, setD, resV, List.set, List.map, List.map_nil, List.map_cons, Option.map_none, Option.map_some, Option.some.injEq, exists_eq_left', pickV, binV, convV, load1V, max2V, min2V, nilchkV, unV, boolEq, isNilV, fadV, extV, slenV, ne_eq, not_true_eq_false, if_false, if_true, ite_true, ite_false, Bool.false_eq_true, Bool.true_eq_false, beq_true, beq_false, beq_self_eq_true, Bool.not_true, Bool.not_false, reduceCtorEq, List.getElem?_toArray, List.getElem?_cons_zero, List.getElem?_cons_succ, cell_blk (cu _ hB3.ext), List.getElem?_cons_zero, aad, st1]
  have hB4 : BoxT H (H4.put q ((exL t).set k (.int .i64 0))) p t := hB3.chg (Chg.put _ _ _) (by omega) (by omega)
  have h7 : (H4.put q ((exL t).set k (.int .i64 0))).blk q = some (exL (t0 k t)) := by rw [put_same]; exact congrArg some (exL_set t hk 0)
  have hn7 : (H4.put q ((exL t).set k (.int .i64 0))).next = H4.next := rfl
  generalize H4.put q ((exL t).set k (.int .i64 0)) = H5 at hB4 h7 hn7 ⊢
  clear st1 h6 hB3
  have ld3 : ∀ (G : AHeap) (u : Tm), G.blk q = some (exL u) → loadNV G 3 (.pointer (some ⟨q, 0, none⟩)) = some (.agg #[vi u.x, vi u.y, vi u.z]) := by
    intro G u h
    exact loadNV_blk h
  refine s_reg ?_
  simp only [o_cont, o_callT, callV_fn, o_pure, o_eff, o_callF, o_callN, o_guard, gk_tt, gk_ff, gk_tf, gk_ft, gk_u, t_op, t_alt, t_nil, o_nil, POp.ev, Opd.ev, EOp.ev, env0, gu, gv, setD, resV, List.set, List.map, List.map_nil, List.map_cons, Option.map_none, Option.map_some, Option.some.injEq, exists_eq_left', pickV, binV, convV, load1V, max2V, min2V, nilchkV, unV, boolEq, isNilV, fadV, extV, slenV, ne_eq, not_true_eq_false, if_false, if_true, ite_true, ite_false, Bool.false_eq_true, Bool.true_eq_false, beq_true, beq_false, beq_self_eq_true, Bool.not_true, Bool.not_false, reduceCtorEq, List.getElem?_toArray, List.getElem?_cons_zero, List.getElem?_cons_succ, Nat.zero_add, Nat.add_zero, hB4.c0, ld3 _ _ h7]
  refine (termOfG_ok lim _ _ _ _ H5 (by omega)).mono ?_
  rintro _ H6 ⟨rfl, hx6⟩
  have hnx6 := hx6.next
  have ht0 : (⟨t.c, (t0 k t).x, (t0 k t).y, (t0 k t).z⟩ : Tm) = t0 k t := by
    have := wi_c t k 0
    unfold t0
    rw [← this]
  rw [ht0]
  simp only [o_cont, o_callT, callV_fn, o_pure, o_eff, o_callF, o_callN, o_guard, gk_tt, gk_ff, gk_tf, gk_ft, gk_u, t_op, t_alt, t_nil, o_nil, POp.ev, Opd.ev, EOp.ev, env0, gu, gv, setD, resV, List.set, List.map, List.map_nil, List.map_cons, Option.map_none, Option.map_some, Option.some.injEq, exists_eq_left', pickV, binV, convV, load1V, max2V, min2V, nilchkV, unV, boolEq, isNilV, fadV, extV, slenV, ne_eq, not_true_eq_false, if_false, if_true, ite_true, ite_false, Bool.false_eq_true, Bool.true_eq_false, beq_true, beq_false, beq_self_eq_true, Bool.not_true, Bool.not_false, reduceCtorEq, List.getElem?_toArray, List.getElem?_cons_zero, List.getElem?_cons_succ, bsliceT]
  have hx7 := Ext.alloc H6 (tc (t0 k t))
  have hov : VecT (H6.alloc (tc (t0 k t))) H6.next (.slice (some ⟨H6.next, 0, some 0⟩) 1 1) [t0 k t] := by
    have h := Vec.lit (H := H6) (n := 1) (sz := 4) (cells := tc (t0 k t)) rfl
    have e : tcs [t0 k t] = tc (t0 k t) := by simp [tcs]
    unfold VecT
    rw [e]
    exact h
  have hn8 : (H6.alloc (tc (t0 k t))).next = H6.next + 1 := rfl
  generalize H6.alloc (tc (t0 k t)) = H7 at hx7 hov hn8 ⊢
  generalize Value.slice (some ⟨H6.next, 0, some 0⟩) 1 1 = sl at hov ⊢
  have h8 : H7.blk q = some (exL (t0 k t)) := by rw [hx7.blk _ (by omega), hx6.blk _ (by omega)]; exact h7
  have hB7 := (hB4.mono hx6).mono hx7
  have hz3 : fillV [.int .i64 0, .int .i64 0, .int .i64 0] [] = some [vi 0, vi 0, vi 0] := rfl
  have hbv : Value.agg (List.toArray [vi 0, vi 0, vi 0]) = .agg #[vi 0, vi 0, vi 0] := rfl
  have st2 : storeH lim H7 3 (.pointer (some ⟨q, 0, none⟩)) (.agg #[vi 0, vi 0, vi 0]) = some (undef, H7.put q [vi 0, vi 0, vi 0]) := store3 (by omega) h8
  refine s_reg ?_
  simp only [o_cont, o_callT, callV_fn, o_pure, o_eff, o_callF, o_callN, o_guard, gk_tt, gk_ff, gk_tf, gk_ft, gk_u, t_op, t_alt, t_nil, o_nil, POp.ev, Opd.ev, EOp.ev, env0, gu, gv, setD, resV, List.set, List.map, List.map_nil, List.map_cons, Option.map_none, Option.map_some, Option.some.injEq, exists_eq_left', pickV, binV, convV, load1V, max2V, min2V, nilchkV, unV, boolEq, isNilV, fadV, extV, slenV, ne_eq, not_true_eq_false, if_false, if_true, ite_true, ite_false, Bool.false_eq_true, Bool.true_eq_false, beq_true, beq_false, beq_self_eq_true, Bool.not_true, Bool.not_false, reduceCtorEq, List.getElem?_toArray, List.getElem?_cons_zero, List.getElem?_cons_succ, hz3, hbv, st2]
  have hB8 : BoxT H (H7.put q [vi 0, vi 0, vi 0]) p t := hB7.chg (Chg.put _ _ _) (by omega) (by omega)
  have h9 : (H7.put q [vi 0, vi 0, vi 0]).blk q = some (exL ⟨1, 0, 0, 0⟩) := put_same _ _ _
  have hn9 : (H7.put q [vi 0, vi 0, vi 0]).next = H7.next := rfl
  have ho8 : VecT (H7.put q [vi 0, vi 0, vi 0]) H6.next sl [t0 k t] := VecT.chg hov (Chg.put _ _ _) (by omega)
  generalize H7.put q [vi 0, vi 0, vi 0] = H8 at hB8 h9 hn9 ho8 ⊢
  clear st2 h8 hB7 hov h7 hB4
  have st3 := store_int (lim := lim) .i64 1 (by omega) h9 (o := k) (by simpa [exL] using hk)
  refine s_reg ?_
  simp only [o_cont, o_callT, callV_fn, o_pure, o_eff, o_callF, o_callN, o_guard, gk_tt, gk_ff, gk_tf, gk_ft, gk_u, t_op, t_alt, t_nil, o_nil, POp.ev, Opd.ev, EOp.ev, env0, gu, gv, setD, resV, List.set, List.map, List.map_nil, List.map_cons, Option.map_none, Option.map_some, Option.some.injEq, exists_eq_left', pickV, binV, convV, load1V, max2V, min2V, nilchkV, unV, boolEq, isNilV, fadV, extV, slenV, ne_eq, not_true_eq_false, if_false, if_true, ite_true, ite_false, Bool.false_eq_true, Bool.true_eq_false, beq_true, beq_false, beq_self_eq_true, Bool.not_true, Bool.not_false, reduceCtorEq, List.getElem?_toArray, List.getElem?_cons_zero, List.getElem?_cons_succ, cell_blk (cu _ hB8.ext), List.getElem?_cons_zero, aad, st3]
  have hB9 : BoxT H (H8.put q ((exL ⟨1, 0, 0, 0⟩).set k (.int .i64 1))) p t := hB8.chg (Chg.put _ _ _) (by omega) (by omega)
  have h10 : (H8.put q ((exL ⟨1, 0, 0, 0⟩).set k (.int .i64 1))).blk q = some (exL (xk k)) := by rw [put_same]; exact congrArg some (exL_set ⟨1, 0, 0, 0⟩ hk 1)
  have ho9 : VecT (H8.put q ((exL ⟨1, 0, 0, 0⟩).set k (.int .i64 1))) H6.next sl [t0 k t] := VecT.chg ho8 (Chg.put _ _ _) (by omega)
  have hn10 : (H8.put q ((exL ⟨1, 0, 0, 0⟩).set k (.int .i64 1))).next = H8.next := rfl
  generalize H8.put q ((exL ⟨1, 0, 0, 0⟩).set k (.int .i64 1)) = H9 at hB9 h10 ho9 hn10 ⊢
  clear st3 h9 hB8 ho8
  have hq9 : q < H9.next := by omega
  have hsl9 := Vec.sl ho9
  have hx9 := hB9.ext
  clear ho9 hB9
  have hxkc : (⟨1, (xk k).x, (xk k).y, (xk k).z⟩ : Tm) = xk k := by
    have : ∀ u : Tm, u.c = 1 → (⟨1, u.x, u.y, u.z⟩ : Tm) = u := by
      rintro ⟨c, x, y, z⟩ h
      subst h
      rfl
    exact this _ (wi_c _ _ _)
  refine s_assoc (s_reg ?_)
  simp only [o_cont, o_callT, callV_fn, o_pure, o_eff, o_callF, o_callN, o_guard, gk_tt, gk_ff, gk_tf, gk_ft, gk_u, t_op, t_alt, t_nil, o_nil, POp.ev, Opd.ev, EOp.ev, env0, gu, gv, setD, resV, List.set, List.map, List.map_nil, List.map_cons, Option.map_none, Option.map_some, Option.some.injEq, exists_eq_left', pickV, binV, convV, load1V, max2V, min2V, nilchkV, unV, boolEq, isNilV, fadV, extV, slenV, ne_eq, not_true_eq_false, if_false, if_true, ite_true, ite_false, Bool.false_eq_true, Bool.true_eq_false, beq_true, beq_false, beq_self_eq_true, Bool.not_true, Bool.not_false, reduceCtorEq, List.getElem?_toArray, List.getElem?_cons_zero, List.getElem?_cons_succ]
  refine s_block ?_
  refine s_loop1 (fun r e' H' => ∃ (j : Nat) (v7 : Value), j + r = e ∧ SlT H' v7 (powF k n j [t0 k t]) ∧ Ext H H' ∧ H'.blk q = some (exL (xk k)) ∧ q < H'.next ∧ e' = [tv t, .pointer (some ⟨qu, 0, none⟩), .pointer (some ⟨qn, 0, none⟩), .pointer (some ⟨p, 0, none⟩), .slice none 0 0, .pointer (some ⟨q, 0, none⟩), .int .i64 e, v7, .int .i64 e, .int .i64 j]) e ⟨0, sl, by omega, hsl9, hx9, h10, hq9, rfl⟩ ?_
  rintro r e' H10 ⟨j, v7, hjr, hv7, hx, hbq, hqlt, rfl⟩
  have hnx := hx.next
  refine s_test ?_
  simp only [o_cont, o_callT, callV_fn, o_pure, o_eff, o_callF, o_callN, o_guard, gk_tt, gk_ff, gk_tf, gk_ft, gk_u, t_op, t_alt, t_nil, o_nil, POp.ev, Opd.ev, EOp.ev, env0, gu, gv, setD, resV, List.set, List.map, List.map_nil, List.map_cons, Option.map_none, Option.map_some, Option.some.injEq, exists_eq_left', pickV, binV, convV, load1V, max2V, min2V, nilchkV, unV, boolEq, isNilV, fadV, extV, slenV, ne_eq, not_true_eq_false, if_false, if_true, ite_true, ite_false, Bool.false_eq_true, Bool.true_eq_false, beq_true, beq_false, beq_self_eq_true, Bool.not_true, Bool.not_false, reduceCtorEq, List.getElem?_toArray, List.getElem?_cons_zero, List.getElem?_cons_succ]
  refine Test.split (fun hlt => ?_) (fun hlt => ?_)
  · have hlt' : j < e := by simpa using hlt
    have hF := pow_fine (k := k) (n := n) ht hc (e := j) (by omega)
    have hps := powF_succ k n j [t0 k t]
    generalize powF k n j [t0 k t] = L at hv7 hF hps
    have hbl : fillV [.int .i64 0, .int .i64 0, .int .i64 0, .int .i64 0] [(0, 1, .int .i64 (-n))] = some (tc ⟨-n, 0, 0, 0⟩) := by simp [fillV, cellsV, tc, putL]
    refine s_skip1 ?_
    simp +decide only [p_seq_normal, p_seq_ret, p_seq_exit, p_block_normal, p_block_ret, p_block_exit, p_fin_ret, p_fin_normal, reduceIte, Nat.reduceEqDiff, resV, resOne, resL, gv, Option.some.injEq, exists_eq_left', Option.bind_some, Option.map_some, List.getD_cons_zero, List.getD_cons_succ]
    refine s_block ?_
    refine s_reg1 ?_
    simp only [o_cont, o_callT, callV_fn, o_pure, o_eff, o_callF, o_callN, o_guard, gk_tt, gk_ff, gk_tf, gk_ft, gk_u, t_op, t_alt, t_nil, o_nil, POp.ev, Opd.ev, EOp.ev, env0, gu, gv, setD, resV, List.set, List.map, List.map_nil, List.map_cons, Option.map_none, Option.map_some, Option.some.injEq, exists_eq_left', pickV, binV, convV, load1V, max2V, min2V, nilchkV, unV, boolEq, isNilV, fadV, extV, slenV, ne_eq, not_true_eq_false, if_false, if_true, ite_true, ite_false, Bool.false_eq_true, Bool.true_eq_false, beq_true, beq_false, beq_self_eq_true, Bool.not_true, Bool.not_false, reduceCtorEq, List.getElem?_toArray, List.getElem?_cons_zero, List.getElem?_cons_succ, ld3 _ _ hbq, cell_blk (cn _ hx), List.getElem?_cons_zero, wn, hbl]
    refine (termOfG_ok H10.next _ _ _ _ H10 (Nat.le_refl _)).mono ?_
    rintro _ H11 ⟨rfl, hx11⟩
    have hnx11 := hx11.next
    rw [hxkc]
    have hbs : bsliceH H11 2 [.int .i64 0, .int .i64 0, .int .i64 0, .int .i64 0, .int .i64 0, .int .i64 0, .int .i64 0, .int .i64 0] [(0, 4, tv (xk k)), (4, 4, .agg (tc ⟨-n, 0, 0, 0⟩).toArray)] = some (.slice (some ⟨H11.next, 0, some 0⟩) 2 2, H11.alloc (tcs [xk k, ⟨-n, 0, 0, 0⟩])) := bsliceTT _ _ _
    simp only [o_cont, o_callT, callV_fn, o_pure, o_eff, o_callF, o_callN, o_guard, gk_tt, gk_ff, gk_tf, gk_ft, gk_u, t_op, t_alt, t_nil, o_nil, POp.ev, Opd.ev, EOp.ev, env0, gu, gv, setD, resV, List.set, List.map, List.map_nil, List.map_cons, Option.map_none, Option.map_some, Option.some.injEq, exists_eq_left', pickV, binV, convV, load1V, max2V, min2V, nilchkV, unV, boolEq, isNilV, fadV, extV, slenV, ne_eq, not_true_eq_false, if_false, if_true, ite_true, ite_false, Bool.false_eq_true, Bool.true_eq_false, beq_true, beq_false, beq_self_eq_true, Bool.not_true, Bool.not_false, reduceCtorEq, List.getElem?_toArray, List.getElem?_cons_zero, List.getElem?_cons_succ, hbs]
    have hx12 := Ext.alloc H11 (tcs [xk k, ⟨-n, 0, 0, 0⟩])
    have ho := sl_two H11 (xk k) ⟨-n, 0, 0, 0⟩
    have hn12 : (H11.alloc (tcs [xk k, ⟨-n, 0, 0, 0⟩])).next = H11.next + 1 := rfl
    generalize H11.alloc (tcs [xk k, ⟨-n, 0, 0, 0⟩]) = H12 at hx12 ho hn12 ⊢
    have hxkE : exS (xk k) := by
      unfold exS xk wi
      split
      · simp
      · split <;> simp
    refine (multiplyTerms_ok lim v7 _ L [xk k, ⟨-n, 0, 0, 0⟩] H12 (by omega) (hv7.ext (hx11.trans hx12)) ho (by have := hF.len; omega) (by simp) (fun u hu => (hF.ex u hu).exS (by omega)) (fun u hu => ?_)).mono ?_
    · rcases List.mem_cons.1 hu with rfl | hu
      · exact hxkE
      · rw [List.mem_singleton.1 hu]; unfold exS; simp
    rintro v8 H13 ⟨c8, g1, g2, g3, g4⟩
    rw [hF.step_coll, ← hps] at g3
    have hx10 := (hx11.trans hx12).trans g4
    have hnx13 := hx10.next
    simp only [o_cont, o_callT, callV_fn, o_pure, o_eff, o_callF, o_callN, o_guard, gk_tt, gk_ff, gk_tf, gk_ft, gk_u, t_op, t_alt, t_nil, o_nil, POp.ev, Opd.ev, EOp.ev, env0, gu, gv, setD, resV, List.set, List.map, List.map_nil, List.map_cons, Option.map_none, Option.map_some, Option.some.injEq, exists_eq_left', pickV, binV, convV, load1V, max2V, min2V, nilchkV, unV, boolEq, isNilV, fadV, extV, slenV, ne_eq, not_true_eq_false, if_false, if_true, ite_true, ite_false, Bool.false_eq_true, Bool.true_eq_false, beq_true, beq_false, beq_self_eq_true, Bool.not_true, Bool.not_false, reduceCtorEq, List.getElem?_toArray, List.getElem?_cons_zero, List.getElem?_cons_succ]
    simp +decide only [p_seq_normal, p_seq_ret, p_seq_exit, p_block_normal, p_block_ret, p_block_exit, p_fin_ret, p_fin_normal, reduceIte, Nat.reduceEqDiff, resV, resOne, resL, gv, Option.some.injEq, exists_eq_left', Option.bind_some, Option.map_some, List.getD_cons_zero, List.getD_cons_succ]
    refine s_reg1 ?_
    simp only [o_cont, o_callT, callV_fn, o_pure, o_eff, o_callF, o_callN, o_guard, gk_tt, gk_ff, gk_tf, gk_ft, gk_u, t_op, t_alt, t_nil, o_nil, POp.ev, Opd.ev, EOp.ev, env0, gu, gv, setD, resV, List.set, List.map, List.map_nil, List.map_cons, Option.map_none, Option.map_some, Option.some.injEq, exists_eq_left', pickV, binV, convV, load1V, max2V, min2V, nilchkV, unV, boolEq, isNilV, fadV, extV, slenV, ne_eq, not_true_eq_false, if_false, if_true, ite_true, ite_false, Bool.false_eq_true, Bool.true_eq_false, beq_true, beq_false, beq_self_eq_true, Bool.not_true, Bool.not_false, reduceCtorEq, List.getElem?_toArray, List.getElem?_cons_zero, List.getElem?_cons_succ, add1 (i := j) (by omega)]
    simp +decide only [p_seq_normal, p_seq_ret, p_seq_exit, p_block_normal, p_block_ret, p_block_exit, p_fin_ret, p_fin_normal, reduceIte, Nat.reduceEqDiff, resV, resOne, resL, gv, Option.some.injEq, exists_eq_left', Option.bind_some, Option.map_some, List.getD_cons_zero, List.getD_cons_succ]
    exact Round.mk (r - 1) (by omega) ⟨j + 1, v8, by omega, Vec.sl g3, hx.trans hx10, by rw [hx10.blk _ hqlt]; exact hbq, by omega, rfl⟩
  · have hj : j = e := by simp at hlt; omega
    subst hj
    have hsh : shT k n t = powF k n j [t0 k t] := by unfold shT; rw [he]; rfl
    refine s_exit1 ?_
    simp +decide only [p_seq_normal, p_seq_ret, p_seq_exit, p_block_normal, p_block_ret, p_block_exit, p_fin_ret, p_fin_normal, reduceIte, Nat.reduceEqDiff, resV, resOne, resL, gv, Option.some.injEq, exists_eq_left', Option.bind_some, Option.map_some, List.getD_cons_zero, List.getD_cons_succ]
    refine s_reg ?_
    simp only [o_cont, o_callT, callV_fn, o_pure, o_eff, o_callF, o_callN, o_guard, gk_tt, gk_ff, gk_tf, gk_ft, gk_u, t_op, t_alt, t_nil, o_nil, POp.ev, Opd.ev, EOp.ev, env0, gu, gv, setD, resV, List.set, List.map, List.map_nil, List.map_cons, Option.map_none, Option.map_some, Option.some.injEq, exists_eq_left', pickV, binV, convV, load1V, max2V, min2V, nilchkV, unV, boolEq, isNilV, fadV, extV, slenV, ne_eq, not_true_eq_false, if_false, if_true, ite_true, ite_false, Bool.false_eq_true, Bool.true_eq_false, beq_true, beq_false, beq_self_eq_true, Bool.not_true, Bool.not_false, reduceCtorEq, List.getElem?_toArray, List.getElem?_cons_zero, List.getElem?_cons_succ]
    refine s_ret1 ?_
    simp +decide only [p_seq_normal, p_seq_ret, p_seq_exit, p_block_normal, p_block_ret, p_block_exit, p_fin_ret, p_fin_normal, reduceIte, Nat.reduceEqDiff, resV, resOne, resL, gv, Option.some.injEq, exists_eq_left', Option.bind_some, Option.map_some, List.getD_cons_zero, List.getD_cons_succ]
    rw [hsh]
    exact ⟨hv7, hx⟩
end Go.Proofs.Ytaimceodhhgnnaa
