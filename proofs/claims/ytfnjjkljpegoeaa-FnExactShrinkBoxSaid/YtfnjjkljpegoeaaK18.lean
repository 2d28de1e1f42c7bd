/- FnExactShrinkBox: the specification's function and the implementation's; no condition beyond stated lengths. -/
import Derived.Test.YtfnjjkljpegoeaaK11
namespace Go.Proofs.Ytfnjjkljpegoeaa
open Go.Ab
set_option linter.unusedSimpArgs false
set_option linter.unusedVariables false

theorem bslice1 (H : AHeap) (k : IntKind) (x : Int) (z : Value) : bsliceH H 1 [z] [(0, 1, .int k x)] = some (.slice (some ⟨H.next, 0, some 0⟩) 1 1, H.alloc [.int k x]) := by
  simp [bsliceH, fillV, cellsV]
theorem VecI.nil (H : AHeap) (b : Nat) : VecI H b (.slice none 0 0) [] := Vec.nil _ _ _
/-- one number put behind a list of one's own -/
theorem VecI.push {lim : Nat} {H : AHeap} {b : Nat} {v : Value} {l : List Int} (h : VecI H b v l) (x : Int) (hl : lim ≤ b) (hn : l.length ≤ 1000000000) :
    ∃ v' H' b', appendH lim (H.alloc [vi x]) 1 8 v (.slice (some ⟨H.next, 0, some 0⟩) 1 1) = some (v', H') ∧ VecI H' b' v' (l ++ [x]) ∧ (b' = b ∨ H.next ≤ b') ∧ b' < H'.next ∧ Chg b H H' := by
  have hx : Vec (H.alloc [vi x]) H.next (.slice (some ⟨H.next, 0, some 0⟩) 1 1) 1 1 [vi x] := Vec.lit rfl
  obtain ⟨v', H', b', h1, h2, h3, h4, h5⟩ := (h.ext (Ext.alloc H [vi x])).append (lim := lim) hl hx.sl (by decide) (bytes := 8) (by omega)
  refine ⟨v', H', b', h1, by simpa [VecI] using h2, ?_, (h2.blk (by omega)).elim fun _ h => h.2, (Chg.of_ext (Ext.alloc H [vi x])).trans h4⟩
  rcases h3 with rfl | ⟨rfl, _⟩
  · exact .inl rfl
  · exact .inr (Nat.le_succ _)

theorem scaled_ok (lim : Nat) (s : Value) (l : List Int) (k : Nat) (H : AHeap) (hl : lim ≤ H.next) (hs : SlI H s l) (hn : l.length ≤ 1000000000) (hk : k ≤ 60) (hr : ∀ x ∈ l, IntKind.i64.wrap (x * 2 ^ k) = x * 2 ^ k) :
    ACalls Try.prog lim n_impl_scaled [s, .int .i64 k] H fun v H' => ∃ b, H.next ≤ b ∧ VecI H' b v (l.map (· * 2 ^ k)) ∧ Ext H H' := by
  refine is_impl_scaled.go rfl ?_
  unfold c_impl_scaled
  have hmin : min (k : Int).toNat IntKind.i64.bits = k := by have hb : IntKind.i64.bits = 64 := rfl; rw [hb]; omega
  have hneg : ¬ ((k : Int) < 0) := by omega
  refine s_reg ?_
  simp only [o_cont, o_callT, callV_fn, o_pure, o_eff, o_callF, o_callN, o_guard, gk_tt, gk_ff, gk_tf, gk_ft, o_nil, POp.ev, Opd.ev, EOp.ev, env0, gu, gv, setD, resV, List.set, List.map, List.map_nil, List.map_cons, Option.map_none, Option.map_some, Option.some.injEq, exists_eq_left', pickV, binV, convV, load1V, max2V, min2V, nilchkV, unV, boolEq, isNilV, fadV, extV, slenV, ne_eq, not_true_eq_false, if_false, if_true, ite_true, ite_false, Bool.false_eq_true, Bool.true_eq_false, beq_true, beq_false, beq_self_eq_true, Bool.not_true, Bool.not_false, reduceCtorEq, List.getElem?_toArray, List.getElem?_cons_zero, List.getElem?_cons_succ]
  refine s_reg ?_
  simp only [o_cont, o_callT, callV_fn, o_pure, o_eff, o_callF, o_callN, o_guard, gk_tt, gk_ff, gk_tf, gk_ft, o_nil, POp.ev, Opd.ev, EOp.ev, env0, gu, gv, setD, resV, List.set, List.map, List.map_nil, List.map_cons, Option.map_none, Option.map_some, Option.some.injEq, exists_eq_left', pickV, binV, convV, load1V, max2V, min2V, nilchkV, unV, boolEq, isNilV, fadV, extV, slenV, ne_eq, not_true_eq_false, if_false, if_true, ite_true, ite_false, Bool.false_eq_true, Bool.true_eq_false, beq_true, beq_false, beq_self_eq_true, Bool.not_true, Bool.not_false, reduceCtorEq, List.getElem?_toArray, List.getElem?_cons_zero, List.getElem?_cons_succ]
  refine s_assoc (s_reg ?_)
  simp only [o_cont, o_callT, callV_fn, o_pure, o_eff, o_callF, o_callN, o_guard, gk_tt, gk_ff, gk_tf, gk_ft, o_nil, POp.ev, Opd.ev, EOp.ev, env0, gu, gv, setD, resV, List.set, List.map, List.map_nil, List.map_cons, Option.map_none, Option.map_some, Option.some.injEq, exists_eq_left', pickV, binV, convV, load1V, max2V, min2V, nilchkV, unV, boolEq, isNilV, fadV, extV, slenV, ne_eq, not_true_eq_false, if_false, if_true, ite_true, ite_false, Bool.false_eq_true, Bool.true_eq_false, beq_true, beq_false, beq_self_eq_true, Bool.not_true, Bool.not_false, reduceCtorEq, List.getElem?_toArray, List.getElem?_cons_zero, List.getElem?_cons_succ, hs.lenV]
  refine s_block ?_
  refine s_loop1 (fun j e' H' => ∃ (i : Nat) (v x : Value) (b : Nat), i + j = l.length ∧ VecI H' b v ((l.take i).map (· * 2 ^ k)) ∧ Ext H H' ∧ H.next ≤ b ∧ e' = [s, .int .i64 k, .slice none 0 0, v, x, s, .int .i64 l.length, .int .i64 i]) l.length ⟨0, _, _, H.next, by omega, by simpa using VecI.nil _ _, Ext.refl _, Nat.le_refl _, rfl⟩ ?_
  rintro j e' H' ⟨i, v, x, b, hij, hv, hx, hb, rfl⟩
  refine s_test ?_
  simp only [o_cont, o_callT, callV_fn, o_pure, o_eff, o_callF, o_callN, o_guard, gk_tt, gk_ff, gk_tf, gk_ft, o_nil, POp.ev, Opd.ev, EOp.ev, env0, gu, gv, setD, resV, List.set, List.map, List.map_nil, List.map_cons, Option.map_none, Option.map_some, Option.some.injEq, exists_eq_left', pickV, binV, convV, load1V, max2V, min2V, nilchkV, unV, boolEq, isNilV, fadV, extV, slenV, ne_eq, not_true_eq_false, if_false, if_true, ite_true, ite_false, Bool.false_eq_true, Bool.true_eq_false, beq_true, beq_false, beq_self_eq_true, Bool.not_true, Bool.not_false, reduceCtorEq, List.getElem?_toArray, List.getElem?_cons_zero, List.getElem?_cons_succ]
  refine Test.split (fun hlt => ?_) (fun hlt => ?_)
  · have hlt' : i < l.length := by simpa using hlt
    obtain ⟨bb, o, h1, h2, h3⟩ := SlI.get (hs.keep (Keep.of_ext hx (Nat.le_refl _)) (Nat.le_refl _)) hlt'
    have hw := hr _ (List.getElem_mem hlt')
    obtain ⟨v', H2, b', g1, g2, g3, g4, g5⟩ := hv.push (lim := lim) (l[i] * 2 ^ k) (by omega) (by simp; omega)
    have hx2 : Ext H H2 := g5.ext hx hb
    refine s_skip1 ?_
    simp +decide only [p_seq_normal, p_seq_ret, p_seq_exit, p_block_normal, p_block_ret, p_block_exit, p_fin_ret, p_fin_normal, reduceIte, Nat.reduceEqDiff, resV, resOne, resL, gv, Option.some.injEq, exists_eq_left', Option.bind_some, Option.map_some, List.getD_cons_zero, List.getD_cons_succ]
    refine s_block ?_
    refine s_reg ?_
    simp only [o_cont, o_callT, callV_fn, o_pure, o_eff, o_callF, o_callN, o_guard, gk_tt, gk_ff, gk_tf, gk_ft, o_nil, POp.ev, Opd.ev, EOp.ev, env0, gu, gv, setD, resV, List.set, List.map, List.map_nil, List.map_cons, Option.map_none, Option.map_some, Option.some.injEq, exists_eq_left', pickV, binV, convV, load1V, max2V, min2V, nilchkV, unV, boolEq, isNilV, fadV, extV, slenV, ne_eq, not_true_eq_false, if_false, if_true, ite_true, ite_false, Bool.false_eq_true, Bool.true_eq_false, beq_true, beq_false, beq_self_eq_true, Bool.not_true, Bool.not_false, reduceCtorEq, List.getElem?_toArray, List.getElem?_cons_zero, List.getElem?_cons_succ, h1, h3]
    refine s_reg1 ?_
    simp only [o_cont, o_callT, callV_fn, o_pure, o_eff, o_callF, o_callN, o_guard, gk_tt, gk_ff, gk_tf, gk_ft, o_nil, POp.ev, Opd.ev, EOp.ev, env0, gu, gv, setD, resV, List.set, List.map, List.map_nil, List.map_cons, Option.map_none, Option.map_some, Option.some.injEq, exists_eq_left', pickV, binV, convV, load1V, max2V, min2V, nilchkV, unV, boolEq, isNilV, fadV, extV, slenV, ne_eq, not_true_eq_false, if_false, if_true, ite_true, ite_false, Bool.false_eq_true, Bool.true_eq_false, beq_true, beq_false, beq_self_eq_true, Bool.not_true, Bool.not_false, reduceCtorEq, List.getElem?_toArray, List.getElem?_cons_zero, List.getElem?_cons_succ, if_neg hneg, hmin, hw, bslice1, g1]
    simp +decide only [p_seq_normal, p_seq_ret, p_seq_exit, p_block_normal, p_block_ret, p_block_exit, p_fin_ret, p_fin_normal, reduceIte, Nat.reduceEqDiff, resV, resOne, resL, gv, Option.some.injEq, exists_eq_left', Option.bind_some, Option.map_some, List.getD_cons_zero, List.getD_cons_succ]
    refine s_reg1 ?_
    simp only [o_cont, o_callT, callV_fn, o_pure, o_eff, o_callF, o_callN, o_guard, gk_tt, gk_ff, gk_tf, gk_ft, o_nil, POp.ev, Opd.ev, EOp.ev, env0, gu, gv, setD, resV, List.set, List.map, List.map_nil, List.map_cons, Option.map_none, Option.map_some, Option.some.injEq, exists_eq_left', pickV, binV, convV, load1V, max2V, min2V, nilchkV, unV, boolEq, isNilV, fadV, extV, slenV, ne_eq, not_true_eq_false, if_false, if_true, ite_true, ite_false, Bool.false_eq_true, Bool.true_eq_false, beq_true, beq_false, beq_self_eq_true, Bool.not_true, Bool.not_false, reduceCtorEq, List.getElem?_toArray, List.getElem?_cons_zero, List.getElem?_cons_succ, add1 (i := i) (by omega)]
    simp +decide only [p_seq_normal, p_seq_ret, p_seq_exit, p_block_normal, p_block_ret, p_block_exit, p_fin_ret, p_fin_normal, reduceIte, Nat.reduceEqDiff, resV, resOne, resL, gv, Option.some.injEq, exists_eq_left', Option.bind_some, Option.map_some, List.getD_cons_zero, List.getD_cons_succ]
    refine Round.mk (j - 1) (by omega) ⟨i + 1, v', _, b', by omega, ?_, hx2, by have := hx.next; rcases g3 with rfl | g3 <;> omega, rfl⟩
    rw [List.take_add_one, List.map_append]
    simpa [hlt'] using g2
  · have hge : i = l.length := by simp at hlt; omega
    subst hge
    refine s_exit1 ?_
    simp +decide only [p_seq_normal, p_seq_ret, p_seq_exit, p_block_normal, p_block_ret, p_block_exit, p_fin_ret, p_fin_normal, reduceIte, Nat.reduceEqDiff, resV, resOne, resL, gv, Option.some.injEq, exists_eq_left', Option.bind_some, Option.map_some, List.getD_cons_zero, List.getD_cons_succ]
    refine s_reg ?_
    simp only [o_cont, o_callT, callV_fn, o_pure, o_eff, o_callF, o_callN, o_guard, gk_tt, gk_ff, gk_tf, gk_ft, o_nil, POp.ev, Opd.ev, EOp.ev, env0, gu, gv, setD, resV, List.set, List.map, List.map_nil, List.map_cons, Option.map_none, Option.map_some, Option.some.injEq, exists_eq_left', pickV, binV, convV, load1V, max2V, min2V, nilchkV, unV, boolEq, isNilV, fadV, extV, slenV, ne_eq, not_true_eq_false, if_false, if_true, ite_true, ite_false, Bool.false_eq_true, Bool.true_eq_false, beq_true, beq_false, beq_self_eq_true, Bool.not_true, Bool.not_false, reduceCtorEq, List.getElem?_toArray, List.getElem?_cons_zero, List.getElem?_cons_succ]
    refine s_ret1 ?_
    simp +decide only [p_seq_normal, p_seq_ret, p_seq_exit, p_block_normal, p_block_ret, p_block_exit, p_fin_ret, p_fin_normal, reduceIte, Nat.reduceEqDiff, resV, resOne, resL, gv, Option.some.injEq, exists_eq_left', Option.bind_some, Option.map_some, List.getD_cons_zero, List.getD_cons_succ]
    exact ⟨b, hb, by simpa using hv, hx⟩

theorem fine_ok (lim : Nat) (v : Value) (k : Int) (low high : List Int) (H : AHeap) (hl : lim ≤ H.next) (hv : BoxV H v k low high) (hn : low.length ≤ 1000000000) (hlen : high.length = low.length) (hr : ∀ x ∈ low, IntKind.i64.wrap (2 * x) = x * 2) (hr2 : ∀ x ∈ high, IntKind.i64.wrap (2 * x) = x * 2) :
    ACalls Try.prog lim n_spec_bxFine [v] H fun v H' => ∃ s t b c, v = .tuple #[s, t] ∧ H.next ≤ b ∧ H.next ≤ c ∧ (low ≠ [] → b ≠ c ∧ b < H'.next ∧ c < H'.next) ∧ VecI H' b s (low.map (· * 2)) ∧ VecI H' c t (high.map (· * 2)) ∧ Ext H H' := by
  obtain ⟨s, t, rfl, hs, ht⟩ := hv
  refine is_spec_bxFine.go rfl ?_
  unfold c_spec_bxFine
  refine s_reg ?_
  simp only [o_cont, o_callT, callV_fn, o_pure, o_eff, o_callF, o_callN, o_guard, gk_tt, gk_ff, gk_tf, gk_ft, o_nil, POp.ev, Opd.ev, EOp.ev, env0, gu, gv, setD, resV, List.set, List.map, List.map_nil, List.map_cons, Option.map_none, Option.map_some, Option.some.injEq, exists_eq_left', pickV, binV, convV, load1V, max2V, min2V, nilchkV, unV, boolEq, isNilV, fadV, extV, slenV, ne_eq, not_true_eq_false, if_false, if_true, ite_true, ite_false, Bool.false_eq_true, Bool.true_eq_false, beq_true, beq_false, beq_self_eq_true, Bool.not_true, Bool.not_false, reduceCtorEq, List.getElem?_toArray, List.getElem?_cons_zero, List.getElem?_cons_succ, boxH, cellsV]
  have hx0 : Ext H (H.alloc [.int .i64 k, s, t]) := Ext.alloc _ _
  have hbp : (H.alloc [.int .i64 k, s, t]).blk H.next = some [.int .i64 k, s, t] := alloc_new _ _
  have hpn : H.next < (H.alloc [.int .i64 k, s, t]).next := Nat.lt_succ_self _
  have hs' := hs.keep (Keep.of_ext hx0 (Nat.le_refl _)) (Nat.le_refl _)
  have ht' := ht.keep (Keep.of_ext hx0 (Nat.le_refl _)) (Nat.le_refl _)
  generalize H.alloc [.int .i64 k, s, t] = H1 at hx0 hbp hpn hs' ht' ⊢
  refine s_reg ?_
  simp only [o_cont, o_callT, callV_fn, o_pure, o_eff, o_callF, o_callN, o_guard, gk_tt, gk_ff, gk_tf, gk_ft, o_nil, POp.ev, Opd.ev, EOp.ev, env0, gu, gv, setD, resV, List.set, List.map, List.map_nil, List.map_cons, Option.map_none, Option.map_some, Option.some.injEq, exists_eq_left', pickV, binV, convV, load1V, max2V, min2V, nilchkV, unV, boolEq, isNilV, fadV, extV, slenV, ne_eq, not_true_eq_false, if_false, if_true, ite_true, ite_false, Bool.false_eq_true, Bool.true_eq_false, beq_true, beq_false, beq_self_eq_true, Bool.not_true, Bool.not_false, reduceCtorEq, List.getElem?_toArray, List.getElem?_cons_zero, List.getElem?_cons_succ]
  refine s_assoc (s_reg ?_)
  simp only [o_cont, o_callT, callV_fn, o_pure, o_eff, o_callF, o_callN, o_guard, gk_tt, gk_ff, gk_tf, gk_ft, o_nil, POp.ev, Opd.ev, EOp.ev, env0, gu, gv, setD, resV, List.set, List.map, List.map_nil, List.map_cons, Option.map_none, Option.map_some, Option.some.injEq, exists_eq_left', pickV, binV, convV, load1V, max2V, min2V, nilchkV, unV, boolEq, isNilV, fadV, extV, slenV, ne_eq, not_true_eq_false, if_false, if_true, ite_true, ite_false, Bool.false_eq_true, Bool.true_eq_false, beq_true, beq_false, beq_self_eq_true, Bool.not_true, Bool.not_false, reduceCtorEq, List.getElem?_toArray, List.getElem?_cons_zero, List.getElem?_cons_succ, cell_blk hbp, Nat.zero_add, hs'.lenV]
  refine s_block ?_
  refine s_loop1 (fun j e' H' => ∃ (i : Nat) (v u x y : Value) (b c : Nat), i + j = low.length ∧ VecI H' b v ((low.take i).map (· * 2)) ∧ VecI H' c u ((high.take i).map (· * 2)) ∧ Ext H1 H' ∧ H1.next ≤ b ∧ H1.next ≤ c ∧ b ≠ c ∧ (i ≠ 0 → b < H'.next ∧ c < H'.next) ∧ e' = [.agg #[.int .i64 k, s, t], .pointer (some ⟨H.next, 0, none⟩), .slice none 0 0, .slice none 0 0, v, u, x, y, s, .int .i64 low.length, .int .i64 i]) low.length ⟨0, _, _, _, _, H1.next, H1.next + 1, by omega, by simpa using VecI.nil _ _, by simpa using VecI.nil _ _, Ext.refl _, Nat.le_refl _, by omega, by omega, (fun h => absurd rfl h), rfl⟩ ?_
  rintro j e' H' ⟨i, v, u, x, y, b, c, hij, hv, hu, hx, hb, hc, hbc, hlt2, rfl⟩
  have hnx := hx.next
  refine s_test ?_
  simp only [o_cont, o_callT, callV_fn, o_pure, o_eff, o_callF, o_callN, o_guard, gk_tt, gk_ff, gk_tf, gk_ft, o_nil, POp.ev, Opd.ev, EOp.ev, env0, gu, gv, setD, resV, List.set, List.map, List.map_nil, List.map_cons, Option.map_none, Option.map_some, Option.some.injEq, exists_eq_left', pickV, binV, convV, load1V, max2V, min2V, nilchkV, unV, boolEq, isNilV, fadV, extV, slenV, ne_eq, not_true_eq_false, if_false, if_true, ite_true, ite_false, Bool.false_eq_true, Bool.true_eq_false, beq_true, beq_false, beq_self_eq_true, Bool.not_true, Bool.not_false, reduceCtorEq, List.getElem?_toArray, List.getElem?_cons_zero, List.getElem?_cons_succ]
  refine Test.split (fun hlt => ?_) (fun hlt => ?_)
  · have hlt' : i < low.length := by simpa using hlt
    have hlth : i < high.length := by omega
    obtain ⟨bb, o, h1, h2, h3⟩ := SlI.get (hs'.keep (Keep.of_ext hx (Nat.le_refl _)) (Nat.le_refl _)) hlt'
    have hw := hr _ (List.getElem_mem hlt')
    have hw2 := hr2 _ (List.getElem_mem hlth)
    have hbp2 : H'.blk H.next = some [.int .i64 k, s, t] := by rw [hx.blk _ hpn]; exact hbp
    refine s_skip1 ?_
    simp +decide only [p_seq_normal, p_seq_ret, p_seq_exit, p_block_normal, p_block_ret, p_block_exit, p_fin_ret, p_fin_normal, reduceIte, Nat.reduceEqDiff, resV, resOne, resL, gv, Option.some.injEq, exists_eq_left', Option.bind_some, Option.map_some, List.getD_cons_zero, List.getD_cons_succ]
    refine s_block ?_
    refine s_reg ?_
    simp only [o_cont, o_callT, callV_fn, o_pure, o_eff, o_callF, o_callN, o_guard, gk_tt, gk_ff, gk_tf, gk_ft, o_nil, POp.ev, Opd.ev, EOp.ev, env0, gu, gv, setD, resV, List.set, List.map, List.map_nil, List.map_cons, Option.map_none, Option.map_some, Option.some.injEq, exists_eq_left', pickV, binV, convV, load1V, max2V, min2V, nilchkV, unV, boolEq, isNilV, fadV, extV, slenV, ne_eq, not_true_eq_false, if_false, if_true, ite_true, ite_false, Bool.false_eq_true, Bool.true_eq_false, beq_true, beq_false, beq_self_eq_true, Bool.not_true, Bool.not_false, reduceCtorEq, List.getElem?_toArray, List.getElem?_cons_zero, List.getElem?_cons_succ, h1, h3]
    -- the first list grows; where it had no block of its own it gets a new one
    have key : ∃ v' H2 b', appendH lim (H'.alloc [vi (low[i] * 2)]) 1 8 v (.slice (some ⟨H'.next, 0, some 0⟩) 1 1) = some (v', H2) ∧ VecI H2 b' v' ((low.take i).map (· * 2) ++ [low[i] * 2]) ∧ b' < H2.next ∧ Ext H1 H2 ∧ H1.next ≤ b' ∧ H'.next ≤ H2.next ∧ ∃ c', VecI H2 c' u ((high.take i).map (· * 2)) ∧ H1.next ≤ c' ∧ b' ≠ c' ∧ (i ≠ 0 → c' < H2.next) := by
      obtain ⟨v', H2, b', g1, g2, g3, g4, g5⟩ := hv.push (lim := lim) (low[i] * 2) (by have := hx0.next; omega) (by simp; omega)
      have hn2 := g5.next
      refine ⟨v', H2, b', g1, g2, g4, g5.ext hx hb, by rcases g3 with rfl | g3 <;> omega, hn2, ?_⟩
      by_cases hi : i = 0
      · subst hi
        rcases hu with ⟨hu, _⟩ | ⟨cc, sp, rest, hu, h3, h4, h5, h6, h7, h8⟩
        · exact ⟨b' + 1, .inl ⟨hu, by simp, by simp⟩, by rcases g3 with rfl | g3 <;> omega, by omega, fun h => absurd rfl h⟩
        · exact ⟨c, (show VecI H2 c u _ from Vec.chg (.inr ⟨cc, sp, rest, hu, h3, h4, h5, h6, h7, h8⟩) g5 (fun h => hbc h.symm)), hc, by rcases g3 with rfl | g3 <;> omega, fun h => absurd rfl h⟩
      · have := hlt2 hi
        exact ⟨c, hu.chg g5 (fun h => hbc h.symm), hc, by rcases g3 with rfl | g3 <;> omega, fun _ => by omega⟩
    obtain ⟨v', H2, b', g1, g2, g4, hx2, hb', hn2, c', hu2, hc', hbc', hlt3⟩ := key
    have hbp3 : H2.blk H.next = some [.int .i64 k, s, t] := by rw [hx2.blk _ hpn]; exact hbp
    obtain ⟨bb2, o2, k1, k2, k3⟩ := SlI.get (ht'.keep (Keep.of_ext hx2 (Nat.le_refl _)) (Nat.le_refl _)) hlth
    refine s_reg ?_
    simp only [o_cont, o_callT, callV_fn, o_pure, o_eff, o_callF, o_callN, o_guard, gk_tt, gk_ff, gk_tf, gk_ft, o_nil, POp.ev, Opd.ev, EOp.ev, env0, gu, gv, setD, resV, List.set, List.map, List.map_nil, List.map_cons, Option.map_none, Option.map_some, Option.some.injEq, exists_eq_left', pickV, binV, convV, load1V, max2V, min2V, nilchkV, unV, boolEq, isNilV, fadV, extV, slenV, ne_eq, not_true_eq_false, if_false, if_true, ite_true, ite_false, Bool.false_eq_true, Bool.true_eq_false, beq_true, beq_false, beq_self_eq_true, Bool.not_true, Bool.not_false, reduceCtorEq, List.getElem?_toArray, List.getElem?_cons_zero, List.getElem?_cons_succ, hw, bslice1, g1]
    obtain ⟨u', H3, c2, q1, q2, q3, q4, q5⟩ := hu2.push (lim := lim) (high[i] * 2) (by have := hx0.next; omega) (by simp; omega)
    have hn3 := q5.next
    refine s_reg1 ?_
    simp only [o_cont, o_callT, callV_fn, o_pure, o_eff, o_callF, o_callN, o_guard, gk_tt, gk_ff, gk_tf, gk_ft, o_nil, POp.ev, Opd.ev, EOp.ev, env0, gu, gv, setD, resV, List.set, List.map, List.map_nil, List.map_cons, Option.map_none, Option.map_some, Option.some.injEq, exists_eq_left', pickV, binV, convV, load1V, max2V, min2V, nilchkV, unV, boolEq, isNilV, fadV, extV, slenV, ne_eq, not_true_eq_false, if_false, if_true, ite_true, ite_false, Bool.false_eq_true, Bool.true_eq_false, beq_true, beq_false, beq_self_eq_true, Bool.not_true, Bool.not_false, reduceCtorEq, List.getElem?_toArray, List.getElem?_cons_zero, List.getElem?_cons_succ, cell_blk hbp3, Nat.zero_add, k1, k3, hw2, bslice1, q1]
    simp +decide only [p_seq_normal, p_seq_ret, p_seq_exit, p_block_normal, p_block_ret, p_block_exit, p_fin_ret, p_fin_normal, reduceIte, Nat.reduceEqDiff, resV, resOne, resL, gv, Option.some.injEq, exists_eq_left', Option.bind_some, Option.map_some, List.getD_cons_zero, List.getD_cons_succ]
    refine s_reg1 ?_
    simp only [o_cont, o_callT, callV_fn, o_pure, o_eff, o_callF, o_callN, o_guard, gk_tt, gk_ff, gk_tf, gk_ft, o_nil, POp.ev, Opd.ev, EOp.ev, env0, gu, gv, setD, resV, List.set, List.map, List.map_nil, List.map_cons, Option.map_none, Option.map_some, Option.some.injEq, exists_eq_left', pickV, binV, convV, load1V, max2V, min2V, nilchkV, unV, boolEq, isNilV, fadV, extV, slenV, ne_eq, not_true_eq_false, if_false, if_true, ite_true, ite_false, Bool.false_eq_true, Bool.true_eq_false, beq_true, beq_false, beq_self_eq_true, Bool.not_true, Bool.not_false, reduceCtorEq, List.getElem?_toArray, List.getElem?_cons_zero, List.getElem?_cons_succ, add1 (i := i) (by omega)]
    simp +decide only [p_seq_normal, p_seq_ret, p_seq_exit, p_block_normal, p_block_ret, p_block_exit, p_fin_ret, p_fin_normal, reduceIte, Nat.reduceEqDiff, resV, resOne, resL, gv, Option.some.injEq, exists_eq_left', Option.bind_some, Option.map_some, List.getD_cons_zero, List.getD_cons_succ]
    refine Round.mk (j - 1) (by omega) ⟨i + 1, v', u', _, _, b', c2, by omega, ?_, ?_, q5.ext hx2 hc', hb', by have := hx2.next; rcases q3 with rfl | q3 <;> omega, by rcases q3 with rfl | q3 <;> omega, fun _ => ⟨by omega, q4⟩, rfl⟩
    · have := g2.chg q5 (fun h => hbc' h)
      rw [List.take_add_one, List.map_append]
      simpa [hlt', VecI] using this
    · rw [List.take_add_one, List.map_append]
      simpa [hlth] using q2
  · have hge : i = low.length := by simp at hlt; omega
    subst hge
    refine s_exit1 ?_
    simp +decide only [p_seq_normal, p_seq_ret, p_seq_exit, p_block_normal, p_block_ret, p_block_exit, p_fin_ret, p_fin_normal, reduceIte, Nat.reduceEqDiff, resV, resOne, resL, gv, Option.some.injEq, exists_eq_left', Option.bind_some, Option.map_some, List.getD_cons_zero, List.getD_cons_succ]
    refine s_reg ?_
    simp only [o_cont, o_callT, callV_fn, o_pure, o_eff, o_callF, o_callN, o_guard, gk_tt, gk_ff, gk_tf, gk_ft, o_nil, POp.ev, Opd.ev, EOp.ev, env0, gu, gv, setD, resV, List.set, List.map, List.map_nil, List.map_cons, Option.map_none, Option.map_some, Option.some.injEq, exists_eq_left', pickV, binV, convV, load1V, max2V, min2V, nilchkV, unV, boolEq, isNilV, fadV, extV, slenV, ne_eq, not_true_eq_false, if_false, if_true, ite_true, ite_false, Bool.false_eq_true, Bool.true_eq_false, beq_true, beq_false, beq_self_eq_true, Bool.not_true, Bool.not_false, reduceCtorEq, List.getElem?_toArray, List.getElem?_cons_zero, List.getElem?_cons_succ]
    refine s_ret1 ?_
    simp +decide only [p_seq_normal, p_seq_ret, p_seq_exit, p_block_normal, p_block_ret, p_block_exit, p_fin_ret, p_fin_normal, reduceIte, Nat.reduceEqDiff, resV, resOne, resL, gv, Option.some.injEq, exists_eq_left', Option.bind_some, Option.map_some, List.getD_cons_zero, List.getD_cons_succ]
    refine ⟨v, u, b, c, rfl, by have := hx0.next; omega, by have := hx0.next; omega, fun h => ⟨hbc, hlt2 (by intro h2; exact h (List.length_eq_zero_iff.1 h2))⟩, by simpa using hv, by simpa [← hlen] using hu, hx0.trans hx⟩

def shrB (k side : Int) (low high : List Int) : Bool × Nat × List Int × List Int :=
  if goodB k low high && inS side low then makeB (k.toNat + 1) ((low.map (· * 2)).set side.toNat (low.getD side.toNat 0)) ((high.map (· * 2)).set side.toNat (high.getD side.toNat 0)) else (false, 0, [], [])
theorem sShrink_ok (lim : Nat) (v : Value) (k side : Int) (low high : List Int) (H : AHeap) (hl : lim ≤ H.next) (hv : BoxV H v k low high) (hn : low.length ≤ 100000000) (hn2 : high.length ≤ 100000000) :
    ACalls Try.prog lim n_spec_ShrinkBox [v, .int .i64 side] H fun v H' => BoxR H.next H' v (shrB k side low high).1 (shrB k side low high).2.1 (shrB k side low high).2.2.1 (shrB k side low high).2.2.2 ∧ Ext H H' := by
  obtain ⟨s, t, rfl, hs, ht⟩ := hv
  refine is_spec_ShrinkBox.go rfl ?_
  unfold c_spec_ShrinkBox
  refine s_reg ?_
  simp only [o_cont, o_callT, callV_fn, o_pure, o_eff, o_callF, o_callN, o_guard, gk_tt, gk_ff, gk_tf, gk_ft, o_nil, POp.ev, Opd.ev, EOp.ev, env0, gu, gv, setD, resV, List.set, List.map, List.map_nil, List.map_cons, Option.map_none, Option.map_some, Option.some.injEq, exists_eq_left', pickV, binV, convV, load1V, max2V, min2V, nilchkV, unV, boolEq, isNilV, fadV, extV, slenV, ne_eq, not_true_eq_false, if_false, if_true, ite_true, ite_false, Bool.false_eq_true, Bool.true_eq_false, beq_true, beq_false, beq_self_eq_true, Bool.not_true, Bool.not_false, reduceCtorEq, List.getElem?_toArray, List.getElem?_cons_zero, List.getElem?_cons_succ, boxH, cellsV]
  have hE := BxE.mk' (k := k) hs ht
  have hnx : (H.alloc [.int .i64 k, s, t]).next = H.next + 1 := rfl
  rw [hnx]
  generalize (H.alloc [.int .i64 k, s, t]).alloc [.int .i64 0, .slice none 0 0, .slice none 0 0] = H1 at hE ⊢
  generalize H.next + 1 = r at hE ⊢
  have hg0 := hE.ge
  have hl0 := hE.lt
  refine s_test_I (!(goodB k low high && inS side low)) (Ext H1) ?_ (fun H2 hx hg => ?_) (fun H2 hx hg => ?_)
  · simp only [o_cont, o_callT, callV_fn, o_pure, o_eff, o_callF, o_callN, o_guard, gk_tt, gk_ff, gk_tf, gk_ft, o_nil, POp.ev, Opd.ev, EOp.ev, env0, gu, gv, setD, resV, List.set, List.map, List.map_nil, List.map_cons, Option.map_none, Option.map_some, Option.some.injEq, exists_eq_left', pickV, binV, convV, load1V, max2V, min2V, nilchkV, unV, boolEq, isNilV, fadV, extV, slenV, ne_eq, not_true_eq_false, if_false, if_true, ite_true, ite_false, Bool.false_eq_true, Bool.true_eq_false, beq_true, beq_false, beq_self_eq_true, Bool.not_true, Bool.not_false, reduceCtorEq, List.getElem?_toArray, List.getElem?_cons_zero, List.getElem?_cons_succ, load3 hE.bp]
    refine (bxSide_ok lim _ _ _ _ _ _ (by omega) hE.boxV (by omega) (by omega)).mono ?_
    rintro v H' ⟨rfl, hx⟩
    simp only [o_cont, o_callT, callV_fn, o_pure, o_eff, o_callF, o_callN, o_guard, gk_tt, gk_ff, gk_tf, gk_ft, o_nil, POp.ev, Opd.ev, EOp.ev, env0, gu, gv, setD, resV, List.set, List.map, List.map_nil, List.map_cons, Option.map_none, Option.map_some, Option.some.injEq, exists_eq_left', pickV, binV, convV, load1V, max2V, min2V, nilchkV, unV, boolEq, isNilV, fadV, extV, slenV, ne_eq, not_true_eq_false, if_false, if_true, ite_true, ite_false, Bool.false_eq_true, Bool.true_eq_false, beq_true, beq_false, beq_self_eq_true, Bool.not_true, Bool.not_false, reduceCtorEq, List.getElem?_toArray, List.getElem?_cons_zero, List.getElem?_cons_succ]
    simp [hx]
  · replace hE := hE.mono hx
    simp only [Bool.not_eq_true'] at hg
    refine s_reg ?_
    simp only [o_cont, o_callT, callV_fn, o_pure, o_eff, o_callF, o_callN, o_guard, gk_tt, gk_ff, gk_tf, gk_ft, o_nil, POp.ev, Opd.ev, EOp.ev, env0, gu, gv, setD, resV, List.set, List.map, List.map_nil, List.map_cons, Option.map_none, Option.map_some, Option.some.injEq, exists_eq_left', pickV, binV, convV, load1V, max2V, min2V, nilchkV, unV, boolEq, isNilV, fadV, extV, slenV, ne_eq, not_true_eq_false, if_false, if_true, ite_true, ite_false, Bool.false_eq_true, Bool.true_eq_false, beq_true, beq_false, beq_self_eq_true, Bool.not_true, Bool.not_false, reduceCtorEq, List.getElem?_toArray, List.getElem?_cons_zero, List.getElem?_cons_succ, zero_box, store3 (lim := lim) (b := r) (by omega) hE.br]
    refine s_ret1 ?_
    simp +decide only [p_seq_normal, p_seq_ret, p_seq_exit, p_block_normal, p_block_ret, p_block_exit, p_fin_ret, p_fin_normal, reduceIte, Nat.reduceEqDiff, resV, resOne, resL, gv, Option.some.injEq, exists_eq_left', Option.bind_some, Option.map_some, List.getD_cons_zero, List.getD_cons_succ, load3 (put_same _ _ _)]
    refine ⟨.inl ⟨?_, rfl⟩, Chg.ext hE.ext (Chg.put _ _ _) (by omega)⟩
    simp [shrB, hg]
  · replace hE := hE.mono hx
    simp only [Bool.not_eq_false'] at hg
    have hgd : goodB k low high = true := by simp only [Bool.and_eq_true] at hg; exact hg.1
    have hsd : inS side low = true := by simp only [Bool.and_eq_true] at hg; exact hg.2
    obtain ⟨g1, g2, g3, g4, g5, g6, g7⟩ := goodB_small hgd
    simp only [inS, Bool.and_eq_true, decide_eq_true_eq] at hsd
    obtain ⟨sd, rfl⟩ : ∃ n : Nat, side = n := ⟨side.toNat, by omega⟩
    have hsl : sd < low.length := by omega
    have hsh : sd < high.length := by omega
    refine s_skip1 ?_
    simp +decide only [p_seq_normal, p_seq_ret, p_seq_exit, p_block_normal, p_block_ret, p_block_exit, p_fin_ret, p_fin_normal, reduceIte, Nat.reduceEqDiff, resV, resOne, resL, gv, Option.some.injEq, exists_eq_left', Option.bind_some, Option.map_some, List.getD_cons_zero, List.getD_cons_succ]
    obtain ⟨kn, rfl⟩ : ∃ kn : Nat, k = kn := ⟨k.toNat, by omega⟩
    have hgh := g7 _ (List.getElem_mem hsh)
    have hgl := g6 _ (List.getElem_mem hsl)
    have hne0 : low ≠ [] := by intro h; rw [h] at hsl; exact absurd hsl (by simp)
    have hg1 := hE.lt
    have hra : ∀ x ∈ low, IntKind.i64.wrap (2 * x) = x * 2 := fun x hx => by have := g6 x hx; rw [IntKind.wrap_i64]; omega
    have hrb : ∀ x ∈ high, IntKind.i64.wrap (2 * x) = x * 2 := fun x hx => by have := g7 x hx; rw [IntKind.wrap_i64]; omega
    refine s_reg ?_
    simp only [o_cont, o_callT, callV_fn, o_pure, o_eff, o_callF, o_callN, o_guard, gk_tt, gk_ff, gk_tf, gk_ft, o_nil, POp.ev, Opd.ev, EOp.ev, env0, gu, gv, setD, resV, List.set, List.map, List.map_nil, List.map_cons, Option.map_none, Option.map_some, Option.some.injEq, exists_eq_left', pickV, binV, convV, load1V, max2V, min2V, nilchkV, unV, boolEq, isNilV, fadV, extV, slenV, ne_eq, not_true_eq_false, if_false, if_true, ite_true, ite_false, Bool.false_eq_true, Bool.true_eq_false, beq_true, beq_false, beq_self_eq_true, Bool.not_true, Bool.not_false, reduceCtorEq, List.getElem?_toArray, List.getElem?_cons_zero, List.getElem?_cons_succ, load3 hE.bp]
    refine (fine_ok lim _ _ _ _ _ (by omega) hE.boxV (by omega) g5 hra hrb).mono ?_
    rintro _ H4 ⟨s1, t1, b, c, rfl, hb1, hc1, hbc, hvb, hvc, hx3⟩
    obtain ⟨hbc, hb2, hc2⟩ := hbc hne0
    replace hE := hE.mono hx3
    have hn4 := hx3.next
    simp only [o_cont, o_callT, callV_fn, o_pure, o_eff, o_callF, o_callN, o_guard, gk_tt, gk_ff, gk_tf, gk_ft, o_nil, POp.ev, Opd.ev, EOp.ev, env0, gu, gv, setD, resV, List.set, List.map, List.map_nil, List.map_cons, Option.map_none, Option.map_some, Option.some.injEq, exists_eq_left', pickV, binV, convV, load1V, max2V, min2V, nilchkV, unV, boolEq, isNilV, fadV, extV, slenV, ne_eq, not_true_eq_false, if_false, if_true, ite_true, ite_false, Bool.false_eq_true, Bool.true_eq_false, beq_true, beq_false, beq_self_eq_true, Bool.not_true, Bool.not_false, reduceCtorEq, List.getElem?_toArray, List.getElem?_cons_zero, List.getElem?_cons_succ]
    have hbp : H.next ≠ b := by omega
    have hcp : H.next ≠ c := by omega
    have hbr : r ≠ b := by omega
    have hcr : r ≠ c := by omega
    obtain ⟨bb, o, h1, h2, h3⟩ := SlI.get hE.sl hsl
    obtain ⟨bb', o', h1', h2', h3'⟩ := SlI.get hE.sh hsh
    obtain ⟨cs5, hs5, hv5⟩ := hvb.put1 (lim := lim) (i := sd) (by omega) (cells_int .i64 low[sd]) (by simpa using hsl)
    refine s_reg ?_
    simp only [o_cont, o_callT, callV_fn, o_pure, o_eff, o_callF, o_callN, o_guard, gk_tt, gk_ff, gk_tf, gk_ft, o_nil, POp.ev, Opd.ev, EOp.ev, env0, gu, gv, setD, resV, List.set, List.map, List.map_nil, List.map_cons, Option.map_none, Option.map_some, Option.some.injEq, exists_eq_left', pickV, binV, convV, load1V, max2V, min2V, nilchkV, unV, boolEq, isNilV, fadV, extV, slenV, ne_eq, not_true_eq_false, if_false, if_true, ite_true, ite_false, Bool.false_eq_true, Bool.true_eq_false, beq_true, beq_false, beq_self_eq_true, Bool.not_true, Bool.not_false, reduceCtorEq, List.getElem?_toArray, List.getElem?_cons_zero, List.getElem?_cons_succ, cell_blk hE.bp, Nat.zero_add, h1, h3, hvb.iad .i64 (show sd < _ by simpa using hsl), Nat.mul_one, hs5]
    replace hvc := hvc.chg (Chg.put b H4 cs5) (by omega : c ≠ b)
    replace hE := hE.chg hs ht (Chg.put b H4 cs5) (by omega) hbp hbr
    have hn5 : (H4.put b cs5).next = H4.next := rfl
    generalize H4.put b cs5 = H5 at hv5 hvc hE hn5 ⊢
    obtain ⟨bb', o', h1', h2', h3'⟩ := SlI.get hE.sh hsh
    obtain ⟨cs6, hs6, hv6⟩ := hvc.put1 (lim := lim) (i := sd) (by omega) (cells_int .i64 high[sd]) (by simpa using hsh)
    refine s_reg ?_
    simp only [o_cont, o_callT, callV_fn, o_pure, o_eff, o_callF, o_callN, o_guard, gk_tt, gk_ff, gk_tf, gk_ft, o_nil, POp.ev, Opd.ev, EOp.ev, env0, gu, gv, setD, resV, List.set, List.map, List.map_nil, List.map_cons, Option.map_none, Option.map_some, Option.some.injEq, exists_eq_left', pickV, binV, convV, load1V, max2V, min2V, nilchkV, unV, boolEq, isNilV, fadV, extV, slenV, ne_eq, not_true_eq_false, if_false, if_true, ite_true, ite_false, Bool.false_eq_true, Bool.true_eq_false, beq_true, beq_false, beq_self_eq_true, Bool.not_true, Bool.not_false, reduceCtorEq, List.getElem?_toArray, List.getElem?_cons_zero, List.getElem?_cons_succ, cell_blk hE.bp, Nat.zero_add, h1', h3', hvc.iad .i64 (show sd < _ by simpa using hsh), Nat.mul_one, hs6]
    replace hv5 := hv5.chg (Chg.put c H5 cs6) (by omega : b ≠ c)
    replace hE := hE.chg hs ht (Chg.put c H5 cs6) (by omega) hcp hcr
    have hn6 : (H5.put c cs6).next = H5.next := rfl
    generalize H5.put c cs6 = H6 at hv5 hv6 hE hn6 ⊢
    have hvl : VecI H6 b s1 ((low.map (· * 2)).set sd low[sd]) := by
      unfold VecI
      rw [List.length_set, List.map_set]
      exact hv5
    have hvh : VecI H6 c t1 ((high.map (· * 2)).set sd high[sd]) := by
      unfold VecI
      rw [List.length_set, List.map_set]
      exact hv6
    have hmir : shrB kn sd low high = makeB (kn + 1) ((low.map (· * 2)).set sd low[sd]) ((high.map (· * 2)).set sd high[sd]) := by
      unfold shrB
      rw [if_pos hg]
      simp [hsl, hsh]
    have hk1 : IntKind.i64.wrap ((kn : Int) + 1) = ((kn + 1 : Nat) : Int) := by rw [IntKind.wrap_i64]; omega
    have hir : InR (low.map (· * 2)) := by
      intro y hy
      obtain ⟨x, hx, rfl⟩ := List.mem_map.1 hy
      have := g6 x hx
      omega
    have hir2 : InR (high.map (· * 2)) := by
      intro y hy
      obtain ⟨x, hx, rfl⟩ := List.mem_map.1 hy
      have := g7 x hx
      omega
    have hl6 := hE.lt
    refine s_reg ?_
    simp only [o_cont, o_callT, callV_fn, o_pure, o_eff, o_callF, o_callN, o_guard, gk_tt, gk_ff, gk_tf, gk_ft, o_nil, POp.ev, Opd.ev, EOp.ev, env0, gu, gv, setD, resV, List.set, List.map, List.map_nil, List.map_cons, Option.map_none, Option.map_some, Option.some.injEq, exists_eq_left', pickV, binV, convV, load1V, max2V, min2V, nilchkV, unV, boolEq, isNilV, fadV, extV, slenV, ne_eq, not_true_eq_false, if_false, if_true, ite_true, ite_false, Bool.false_eq_true, Bool.true_eq_false, beq_true, beq_false, beq_self_eq_true, Bool.not_true, Bool.not_false, reduceCtorEq, List.getElem?_toArray, List.getElem?_cons_zero, List.getElem?_cons_succ, cell_blk hE.bp, Nat.zero_add, hk1]
    refine (bxMake_ok lim (kn + 1) s1 t1 _ _ H6 (by omega) hvl.sl hvh.sl (by simp; omega) (by simp; omega) (by omega) (hir.set _ (by omega)) (hir2.set _ (by omega))).mono ?_
    rintro v H7 ⟨hR, hx7⟩
    replace hE := hE.mono hx7
    obtain ⟨x, y, z, rfl⟩ := hR.form
    simp only [o_cont, o_callT, callV_fn, o_pure, o_eff, o_callF, o_callN, o_guard, gk_tt, gk_ff, gk_tf, gk_ft, o_nil, POp.ev, Opd.ev, EOp.ev, env0, gu, gv, setD, resV, List.set, List.map, List.map_nil, List.map_cons, Option.map_none, Option.map_some, Option.some.injEq, exists_eq_left', pickV, binV, convV, load1V, max2V, min2V, nilchkV, unV, boolEq, isNilV, fadV, extV, slenV, ne_eq, not_true_eq_false, if_false, if_true, ite_true, ite_false, Bool.false_eq_true, Bool.true_eq_false, beq_true, beq_false, beq_self_eq_true, Bool.not_true, Bool.not_false, reduceCtorEq, List.getElem?_toArray, List.getElem?_cons_zero, List.getElem?_cons_succ, store3 (lim := lim) (b := r) (by omega) hE.br]
    refine s_ret1 ?_
    simp +decide only [p_seq_normal, p_seq_ret, p_seq_exit, p_block_normal, p_block_ret, p_block_exit, p_fin_ret, p_fin_normal, reduceIte, Nat.reduceEqDiff, resV, resOne, resL, gv, Option.some.injEq, exists_eq_left', Option.bind_some, Option.map_some, List.getD_cons_zero, List.getD_cons_succ, load3 (put_same _ _ _)]
    refine ⟨?_, Chg.ext hE.ext (Chg.put _ _ _) (by omega)⟩
    rw [hmir]
    exact (hR.put (by omega) _).low (by omega)
theorem iShrink_ok (lim : Nat) (v : Value) (k side : Int) (low high : List Int) (H : AHeap) (hl : lim ≤ H.next) (hv : BoxV H v k low high) (hn : low.length ≤ 100000000) (hn2 : high.length ≤ 100000000) :
    ACalls Try.prog lim n_impl_ShrinkBox [v, .int .i64 side] H fun v H' => BoxR H.next H' v (shrB k side low high).1 (shrB k side low high).2.1 (shrB k side low high).2.2.1 (shrB k side low high).2.2.2 ∧ Ext H H' := by
  obtain ⟨s, t, rfl, hs, ht⟩ := hv
  refine is_impl_ShrinkBox.go rfl ?_
  unfold c_impl_ShrinkBox
  refine s_reg ?_
  simp only [o_cont, o_callT, callV_fn, o_pure, o_eff, o_callF, o_callN, o_guard, gk_tt, gk_ff, gk_tf, gk_ft, o_nil, POp.ev, Opd.ev, EOp.ev, env0, gu, gv, setD, resV, List.set, List.map, List.map_nil, List.map_cons, Option.map_none, Option.map_some, Option.some.injEq, exists_eq_left', pickV, binV, convV, load1V, max2V, min2V, nilchkV, unV, boolEq, isNilV, fadV, extV, slenV, ne_eq, not_true_eq_false, if_false, if_true, ite_true, ite_false, Bool.false_eq_true, Bool.true_eq_false, beq_true, beq_false, beq_self_eq_true, Bool.not_true, Bool.not_false, reduceCtorEq, List.getElem?_toArray, List.getElem?_cons_zero, List.getElem?_cons_succ, boxH, cellsV]
  have hE := BxE.mk' (k := k) hs ht
  have hnx : (H.alloc [.int .i64 k, s, t]).next = H.next + 1 := rfl
  rw [hnx]
  generalize (H.alloc [.int .i64 k, s, t]).alloc [.int .i64 0, .slice none 0 0, .slice none 0 0] = H2 at hE ⊢
  generalize H.next + 1 = r at hE ⊢
  have hg0 := hE.ge
  have hl0 := hE.lt
  refine s_test_same (!(goodB k low high && inS side low)) ?_ (fun hg => ?_) (fun hg => ?_)
  · simp only [o_cont, o_callT, callV_fn, o_pure, o_eff, o_callF, o_callN, o_guard, gk_tt, gk_ff, gk_tf, gk_ft, o_nil, POp.ev, Opd.ev, EOp.ev, env0, gu, gv, setD, resV, List.set, List.map, List.map_nil, List.map_cons, Option.map_none, Option.map_some, Option.some.injEq, exists_eq_left', pickV, binV, convV, load1V, max2V, min2V, nilchkV, unV, boolEq, isNilV, fadV, extV, slenV, ne_eq, not_true_eq_false, if_false, if_true, ite_true, ite_false, Bool.false_eq_true, Bool.true_eq_false, beq_true, beq_false, beq_self_eq_true, Bool.not_true, Bool.not_false, reduceCtorEq, List.getElem?_toArray, List.getElem?_cons_zero, List.getElem?_cons_succ]
    refine (isBox_ok _ hE.boxP (by omega) (by omega)).eq ?_
    cases hgd : goodB k low high
    · simp only [o_cont, o_callT, callV_fn, o_pure, o_eff, o_callF, o_callN, o_guard, gk_tt, gk_ff, gk_tf, gk_ft, o_nil, POp.ev, Opd.ev, EOp.ev, env0, gu, gv, setD, resV, List.set, List.map, List.map_nil, List.map_cons, Option.map_none, Option.map_some, Option.some.injEq, exists_eq_left', pickV, binV, convV, load1V, max2V, min2V, nilchkV, unV, boolEq, isNilV, fadV, extV, slenV, ne_eq, not_true_eq_false, if_false, if_true, ite_true, ite_false, Bool.false_eq_true, Bool.true_eq_false, beq_true, beq_false, beq_self_eq_true, Bool.not_true, Bool.not_false, reduceCtorEq, List.getElem?_toArray, List.getElem?_cons_zero, List.getElem?_cons_succ]
      simp
    · simp only [o_cont, o_callT, callV_fn, o_pure, o_eff, o_callF, o_callN, o_guard, gk_tt, gk_ff, gk_tf, gk_ft, o_nil, POp.ev, Opd.ev, EOp.ev, env0, gu, gv, setD, resV, List.set, List.map, List.map_nil, List.map_cons, Option.map_none, Option.map_some, Option.some.injEq, exists_eq_left', pickV, binV, convV, load1V, max2V, min2V, nilchkV, unV, boolEq, isNilV, fadV, extV, slenV, ne_eq, not_true_eq_false, if_false, if_true, ite_true, ite_false, Bool.false_eq_true, Bool.true_eq_false, beq_true, beq_false, beq_self_eq_true, Bool.not_true, Bool.not_false, reduceCtorEq, List.getElem?_toArray, List.getElem?_cons_zero, List.getElem?_cons_succ]
      refine (has_ok _ _ hE.boxP (by omega)).eq ?_
      simp only [o_cont, o_callT, callV_fn, o_pure, o_eff, o_callF, o_callN, o_guard, gk_tt, gk_ff, gk_tf, gk_ft, o_nil, POp.ev, Opd.ev, EOp.ev, env0, gu, gv, setD, resV, List.set, List.map, List.map_nil, List.map_cons, Option.map_none, Option.map_some, Option.some.injEq, exists_eq_left', pickV, binV, convV, load1V, max2V, min2V, nilchkV, unV, boolEq, isNilV, fadV, extV, slenV, ne_eq, not_true_eq_false, if_false, if_true, ite_true, ite_false, Bool.false_eq_true, Bool.true_eq_false, beq_true, beq_false, beq_self_eq_true, Bool.not_true, Bool.not_false, reduceCtorEq, List.getElem?_toArray, List.getElem?_cons_zero, List.getElem?_cons_succ]
      simp [inS]
  · simp only [Bool.not_eq_true'] at hg
    refine s_reg ?_
    simp only [o_cont, o_callT, callV_fn, o_pure, o_eff, o_callF, o_callN, o_guard, gk_tt, gk_ff, gk_tf, gk_ft, o_nil, POp.ev, Opd.ev, EOp.ev, env0, gu, gv, setD, resV, List.set, List.map, List.map_nil, List.map_cons, Option.map_none, Option.map_some, Option.some.injEq, exists_eq_left', pickV, binV, convV, load1V, max2V, min2V, nilchkV, unV, boolEq, isNilV, fadV, extV, slenV, ne_eq, not_true_eq_false, if_false, if_true, ite_true, ite_false, Bool.false_eq_true, Bool.true_eq_false, beq_true, beq_false, beq_self_eq_true, Bool.not_true, Bool.not_false, reduceCtorEq, List.getElem?_toArray, List.getElem?_cons_zero, List.getElem?_cons_succ, zero_box, store3 (lim := lim) (b := r) (by omega) hE.br]
    refine s_ret1 ?_
    simp +decide only [p_seq_normal, p_seq_ret, p_seq_exit, p_block_normal, p_block_ret, p_block_exit, p_fin_ret, p_fin_normal, reduceIte, Nat.reduceEqDiff, resV, resOne, resL, gv, Option.some.injEq, exists_eq_left', Option.bind_some, Option.map_some, List.getD_cons_zero, List.getD_cons_succ, load3 (put_same _ _ _)]
    refine ⟨.inl ⟨?_, rfl⟩, Chg.ext hE.ext (Chg.put _ _ _) (by omega)⟩
    simp [shrB, hg]
  · simp only [Bool.not_eq_false'] at hg
    have hgd : goodB k low high = true := by simp only [Bool.and_eq_true] at hg; exact hg.1
    have hsd : inS side low = true := by simp only [Bool.and_eq_true] at hg; exact hg.2
    obtain ⟨g1, g2, g3, g4, g5, g6, g7⟩ := goodB_small hgd
    simp only [inS, Bool.and_eq_true, decide_eq_true_eq] at hsd
    obtain ⟨sd, rfl⟩ : ∃ n : Nat, side = n := ⟨side.toNat, by omega⟩
    have hsl : sd < low.length := by omega
    have hsh : sd < high.length := by omega
    refine s_skip1 ?_
    simp +decide only [p_seq_normal, p_seq_ret, p_seq_exit, p_block_normal, p_block_ret, p_block_exit, p_fin_ret, p_fin_normal, reduceIte, Nat.reduceEqDiff, resV, resOne, resL, gv, Option.some.injEq, exists_eq_left', Option.bind_some, Option.map_some, List.getD_cons_zero, List.getD_cons_succ]
    obtain ⟨kn, rfl⟩ : ∃ kn : Nat, k = kn := ⟨k.toNat, by omega⟩
    have hgh := g7 _ (List.getElem_mem hsh)
    have hgl := g6 _ (List.getElem_mem hsl)
    have hne0 : low ≠ [] := by intro h; rw [h] at hsl; exact absurd hsl (by simp)
    have hg1 := hE.lt
    have hra : ∀ x ∈ low, IntKind.i64.wrap (x * 2 ^ 1) = x * 2 ^ 1 := fun x hx => by have := g6 x hx; rw [IntKind.wrap_i64]; omega
    have hrb : ∀ x ∈ high, IntKind.i64.wrap (x * 2 ^ 1) = x * 2 ^ 1 := fun x hx => by have := g7 x hx; rw [IntKind.wrap_i64]; omega
    refine s_reg ?_
    simp only [o_cont, o_callT, callV_fn, o_pure, o_eff, o_callF, o_callN, o_guard, gk_tt, gk_ff, gk_tf, gk_ft, o_nil, POp.ev, Opd.ev, EOp.ev, env0, gu, gv, setD, resV, List.set, List.map, List.map_nil, List.map_cons, Option.map_none, Option.map_some, Option.some.injEq, exists_eq_left', pickV, binV, convV, load1V, max2V, min2V, nilchkV, unV, boolEq, isNilV, fadV, extV, slenV, ne_eq, not_true_eq_false, if_false, if_true, ite_true, ite_false, Bool.false_eq_true, Bool.true_eq_false, beq_true, beq_false, beq_self_eq_true, Bool.not_true, Bool.not_false, reduceCtorEq, List.getElem?_toArray, List.getElem?_cons_zero, List.getElem?_cons_succ, cell_blk hE.bp, Nat.zero_add]
    refine (scaled_ok H2.next _ _ 1 _ (Nat.le_refl _) hE.sl (by omega) (by omega) hra).use ?_
    rintro s1 H3 ⟨b, hb1, hvb, hx2⟩ _
    have hb2 : b < H3.next := (hvb.blk (by rw [List.length_map]; omega)).elim fun _ h => h.2
    replace hE := hE.mono hx2
    simp only [o_cont, o_callT, callV_fn, o_pure, o_eff, o_callF, o_callN, o_guard, gk_tt, gk_ff, gk_tf, gk_ft, o_nil, POp.ev, Opd.ev, EOp.ev, env0, gu, gv, setD, resV, List.set, List.map, List.map_nil, List.map_cons, Option.map_none, Option.map_some, Option.some.injEq, exists_eq_left', pickV, binV, convV, load1V, max2V, min2V, nilchkV, unV, boolEq, isNilV, fadV, extV, slenV, ne_eq, not_true_eq_false, if_false, if_true, ite_true, ite_false, Bool.false_eq_true, Bool.true_eq_false, beq_true, beq_false, beq_self_eq_true, Bool.not_true, Bool.not_false, reduceCtorEq, List.getElem?_toArray, List.getElem?_cons_zero, List.getElem?_cons_succ]
    have hn3 := hx2.next
    refine (scaled_ok lim _ _ 1 _ (by omega) hE.sh (by omega) (by omega) hrb).mono ?_
    rintro t1 H4 ⟨c, hc1, hvc, hx3⟩
    have hc2 : c < H4.next := (hvc.blk (by rw [List.length_map]; omega)).elim fun _ h => h.2
    replace hE := hE.mono hx3
    replace hvb := hvb.ext hx3
    have hn4 := hx3.next
    simp only [Int.pow_one] at hvb hvc
    simp only [o_cont, o_callT, callV_fn, o_pure, o_eff, o_callF, o_callN, o_guard, gk_tt, gk_ff, gk_tf, gk_ft, o_nil, POp.ev, Opd.ev, EOp.ev, env0, gu, gv, setD, resV, List.set, List.map, List.map_nil, List.map_cons, Option.map_none, Option.map_some, Option.some.injEq, exists_eq_left', pickV, binV, convV, load1V, max2V, min2V, nilchkV, unV, boolEq, isNilV, fadV, extV, slenV, ne_eq, not_true_eq_false, if_false, if_true, ite_true, ite_false, Bool.false_eq_true, Bool.true_eq_false, beq_true, beq_false, beq_self_eq_true, Bool.not_true, Bool.not_false, reduceCtorEq, List.getElem?_toArray, List.getElem?_cons_zero, List.getElem?_cons_succ]
    have hbc : b ≠ c := by omega
    have hbp : H.next ≠ b := by omega
    have hcp : H.next ≠ c := by omega
    have hbr : r ≠ b := by omega
    have hcr : r ≠ c := by omega
    obtain ⟨bb, o, h1, h2, h3⟩ := SlI.get hE.sl hsl
    obtain ⟨bb', o', h1', h2', h3'⟩ := SlI.get hE.sh hsh
    obtain ⟨cs5, hs5, hv5⟩ := hvb.put1 (lim := lim) (i := sd) (by omega) (cells_int .i64 low[sd]) (by simpa using hsl)
    have hvc' := hvc.chg (Chg.put b H4 cs5) (by omega : c ≠ b)
    obtain ⟨cs6, hs6, hv6⟩ := hvc'.put1 (lim := lim) (i := sd) (by omega) (cells_int .i64 high[sd]) (by simpa using hsh)
    refine s_reg ?_
    simp only [o_cont, o_callT, callV_fn, o_pure, o_eff, o_callF, o_callN, o_guard, gk_tt, gk_ff, gk_tf, gk_ft, o_nil, POp.ev, Opd.ev, EOp.ev, env0, gu, gv, setD, resV, List.set, List.map, List.map_nil, List.map_cons, Option.map_none, Option.map_some, Option.some.injEq, exists_eq_left', pickV, binV, convV, load1V, max2V, min2V, nilchkV, unV, boolEq, isNilV, fadV, extV, slenV, ne_eq, not_true_eq_false, if_false, if_true, ite_true, ite_false, Bool.false_eq_true, Bool.true_eq_false, beq_true, beq_false, beq_self_eq_true, Bool.not_true, Bool.not_false, reduceCtorEq, List.getElem?_toArray, List.getElem?_cons_zero, List.getElem?_cons_succ, cell_blk hE.bp, Nat.zero_add, h1', h3', h1, h3, hvb.iad .i64 (show sd < _ by simpa using hsl), hvc.iad .i64 (show sd < _ by simpa using hsh), Nat.mul_one, hs5, hs6]
    replace hE := hE.chg hs ht (Chg.put b H4 cs5) (by omega) hbp hbr
    have hn5 : (H4.put b cs5).next = H4.next := rfl
    generalize H4.put b cs5 = H5 at hv5 hvc' hv6 hE hn5 ⊢
    replace hv5 := hv5.chg (Chg.put c H5 cs6) (by omega : b ≠ c)
    replace hE := hE.chg hs ht (Chg.put c H5 cs6) (by omega) hcp hcr
    have hn6 : (H5.put c cs6).next = H5.next := rfl
    generalize H5.put c cs6 = H6 at hv5 hv6 hE hn6 ⊢
    have hvl : VecI H6 b s1 ((low.map (· * 2)).set sd low[sd]) := by
      unfold VecI
      rw [List.length_set, List.map_set]
      exact hv5
    have hvh : VecI H6 c t1 ((high.map (· * 2)).set sd high[sd]) := by
      unfold VecI
      rw [List.length_set, List.map_set]
      exact hv6
    have hmir : shrB kn sd low high = makeB (kn + 1) ((low.map (· * 2)).set sd low[sd]) ((high.map (· * 2)).set sd high[sd]) := by
      unfold shrB
      rw [if_pos hg]
      simp [hsl, hsh]
    have hk1 : IntKind.i64.wrap ((kn : Int) + 1) = ((kn + 1 : Nat) : Int) := by rw [IntKind.wrap_i64]; omega
    have hir : InR (low.map (· * 2)) := by
      intro y hy
      obtain ⟨x, hx, rfl⟩ := List.mem_map.1 hy
      have := g6 x hx
      omega
    have hir2 : InR (high.map (· * 2)) := by
      intro y hy
      obtain ⟨x, hx, rfl⟩ := List.mem_map.1 hy
      have := g7 x hx
      omega
    have hl6 := hE.lt
    refine s_reg ?_
    simp only [o_cont, o_callT, callV_fn, o_pure, o_eff, o_callF, o_callN, o_guard, gk_tt, gk_ff, gk_tf, gk_ft, o_nil, POp.ev, Opd.ev, EOp.ev, env0, gu, gv, setD, resV, List.set, List.map, List.map_nil, List.map_cons, Option.map_none, Option.map_some, Option.some.injEq, exists_eq_left', pickV, binV, convV, load1V, max2V, min2V, nilchkV, unV, boolEq, isNilV, fadV, extV, slenV, ne_eq, not_true_eq_false, if_false, if_true, ite_true, ite_false, Bool.false_eq_true, Bool.true_eq_false, beq_true, beq_false, beq_self_eq_true, Bool.not_true, Bool.not_false, reduceCtorEq, List.getElem?_toArray, List.getElem?_cons_zero, List.getElem?_cons_succ, cell_blk hE.bp, Nat.zero_add, hk1]
    refine (boxOf_ok lim (kn + 1) s1 t1 _ _ H6 (by omega) hvl.sl hvh.sl (by simp; omega) (by simp; omega) (by simp; omega) (by omega) (hir.set _ (by omega)) (hir2.set _ (by omega))).mono ?_
    rintro v H7 ⟨hR, hx7⟩
    replace hE := hE.mono hx7
    obtain ⟨x, y, z, rfl⟩ := hR.form
    simp only [o_cont, o_callT, callV_fn, o_pure, o_eff, o_callF, o_callN, o_guard, gk_tt, gk_ff, gk_tf, gk_ft, o_nil, POp.ev, Opd.ev, EOp.ev, env0, gu, gv, setD, resV, List.set, List.map, List.map_nil, List.map_cons, Option.map_none, Option.map_some, Option.some.injEq, exists_eq_left', pickV, binV, convV, load1V, max2V, min2V, nilchkV, unV, boolEq, isNilV, fadV, extV, slenV, ne_eq, not_true_eq_false, if_false, if_true, ite_true, ite_false, Bool.false_eq_true, Bool.true_eq_false, beq_true, beq_false, beq_self_eq_true, Bool.not_true, Bool.not_false, reduceCtorEq, List.getElem?_toArray, List.getElem?_cons_zero, List.getElem?_cons_succ, store3 (lim := lim) (b := r) (by omega) hE.br]
    refine s_ret1 ?_
    simp +decide only [p_seq_normal, p_seq_ret, p_seq_exit, p_block_normal, p_block_ret, p_block_exit, p_fin_ret, p_fin_normal, reduceIte, Nat.reduceEqDiff, resV, resOne, resL, gv, Option.some.injEq, exists_eq_left', Option.bind_some, Option.map_some, List.getD_cons_zero, List.getD_cons_succ, load3 (put_same _ _ _)]
    refine ⟨?_, Chg.ext hE.ext (Chg.put _ _ _) (by omega)⟩
    rw [hmir]
    exact (hR.put (by omega) _).low (by omega)
end Go.Proofs.Ytfnjjkljpegoeaa
