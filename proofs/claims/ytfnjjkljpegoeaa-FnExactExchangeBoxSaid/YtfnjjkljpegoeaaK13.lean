/- The box laws, part 8 of their walk: the law's own helpers on boxes; no condition beyond stated lengths. -/
import Derived.Test.YtfnjjkljpegoeaaK12
import Derived.Test.YtfnjjkljpegoeaaK3
namespace Go.Proofs.Ytfnjjkljpegoeaa
open Go.Ab
set_option linter.unusedSimpArgs false
set_option linter.unusedVariables false

/-- only blocks within the bounds are turned -/
structure Out (lo hi : Nat) (H H' : AHeap) : Prop where
  next : H.next ≤ H'.next
  blk : ∀ b, b < H.next → (b < lo ∨ hi ≤ b) → H'.blk b = H.blk b
theorem Out.of_ext {lo hi : Nat} {H H' : AHeap} (h : Ext H H') : Out lo hi H H' := ⟨h.next, fun b hb _ => h.blk b hb⟩
theorem Out.trans {lo hi : Nat} {H H1 H2 : AHeap} (h : Out lo hi H H1) (k : Out lo hi H1 H2) : Out lo hi H H2 := ⟨Nat.le_trans h.next k.next, fun b hb hn => (k.blk b (Nat.lt_of_lt_of_le hb h.next) hn).trans (h.blk b hb hn)⟩
theorem Out.of_chg {lo hi b : Nat} {H H' : AHeap} (h : Chg b H H') (h1 : lo ≤ b) (h2 : b < hi) : Out lo hi H H' := ⟨h.next, fun b' hb hn => h.blk b' hb (by omega)⟩
theorem Out.ext {lo hi : Nat} {H0 H H' : AHeap} (hx : Ext H0 H) (h : Out lo hi H H') (hl : H0.next ≤ lo) : Ext H0 H' :=
  ⟨Nat.le_trans hx.next h.next, fun b hb => (h.blk b (Nat.lt_of_lt_of_le hb hx.next) (by omega)).trans (hx.blk b hb)⟩

/-- a box whose sides lie in two blocks within the bounds -/
def BoxO (H : AHeap) (lo hi : Nat) (x : Value) (k : Int) (low high : List Int) : Prop :=
  ∃ s t, x = .agg #[.int .i64 k, s, t] ∧ ((s = .slice none 0 0 ∧ t = .slice none 0 0 ∧ low = [] ∧ high = []) ∨ ∃ b c, b ≠ c ∧ lo ≤ b ∧ b < hi ∧ lo ≤ c ∧ c < hi ∧ VecI H b s low ∧ VecI H c t high)
theorem BoxO.keep {H H' : AHeap} {lo hi : Nat} {x : Value} {k : Int} {low high : List Int} (h : BoxO H lo hi x k low high) (hn : H.next ≤ H'.next) (hb : ∀ b, b < H.next → lo ≤ b → b < hi → H'.blk b = H.blk b) : BoxO H' lo hi x k low high := by
  obtain ⟨s, t, h1, h2⟩ := h
  refine ⟨s, t, h1, ?_⟩
  rcases h2 with h2 | ⟨b, c, g1, g2, g3, g4, g5, g6, g7⟩
  · exact .inl h2
  · exact .inr ⟨b, c, g1, g2, g3, g4, g5, g6.keep hn fun h => hb b h g2 g3, g7.keep hn fun h => hb c h g4 g5⟩
theorem BoxO.ext {H H' : AHeap} {lo hi : Nat} {x : Value} {k : Int} {low high : List Int} (h : BoxO H lo hi x k low high) (hx : Ext H H') : BoxO H' lo hi x k low high := h.keep hx.next fun b hb _ _ => hx.blk b hb
theorem BoxO.out {H H' : AHeap} {lo hi lo' hi' : Nat} {x : Value} {k : Int} {low high : List Int} (h : BoxO H lo hi x k low high) (hx : Out lo' hi' H H') (hd : hi ≤ lo' ∨ hi' ≤ lo) : BoxO H' lo hi x k low high :=
  h.keep hx.next fun b hb h1 h2 => hx.blk b hb (by omega)
theorem BoxO.boxV {H : AHeap} {lo hi : Nat} {x : Value} {k : Int} {low high : List Int} (h : BoxO H lo hi x k low high) : BoxV H x k low high := by
  obtain ⟨s, t, h1, h2⟩ := h
  refine ⟨s, t, h1, ?_⟩
  rcases h2 with ⟨rfl, rfl, rfl, rfl⟩ | ⟨b, c, _, _, _, _, _, g6, g7⟩
  · exact ⟨Sl.nil _ _, Sl.nil _ _⟩
  · exact ⟨g6.sl, g7.sl⟩
theorem BoxO.cells {H : AHeap} {lo hi : Nat} {x : Value} {k : Int} {low high : List Int} (h : BoxO H lo hi x k low high) : ∃ s t, x = .agg #[.int .i64 k, s, t] := by
  obtain ⟨s, t, h1, _⟩ := h
  exact ⟨s, t, h1⟩

theorem markBox_ok (lim lo hi : Nat) (x : Value) (kk m : Int) (low high : List Int) (H : AHeap) (hl : lim ≤ lo) (hlo : hi ≤ H.next) (hh : lo ≤ hi) (hb : BoxO H lo hi x kk low high) (hn : low.length ≤ 100000000) (hn2 : high.length ≤ 100000000) (h0 : 0 ≤ m) (hm : m ≤ 1000000) :
    ACalls Try.prog lim n_laws_markBox [x, .int .i64 m] H fun v H' => v = .int .i64 (m + low.length + high.length) ∧ BoxO H' lo hi x kk (iota m low.length) (iota (m + low.length) high.length) ∧ Out lo hi H H' := by
  have hb0 := hb
  obtain ⟨s, t, rfl, hst⟩ := hb0
  refine is_laws_markBox.go rfl ?_
  unfold c_laws_markBox
  refine s_reg ?_
  simp only [o_cont, o_callT, callV_fn, o_pure, o_eff, o_callF, o_callN, o_guard, gk_tt, gk_ff, gk_tf, gk_ft, gk_u, t_op, t_alt, t_nil, o_nil, POp.ev, Opd.ev, EOp.ev, env0, gu, gv, setD, resV, List.set, List.map, List.map_nil, List.map_cons, Option.map_none, Option.map_some, Option.some.injEq, exists_eq_left', pickV, binV, convV, load1V, max2V, min2V, nilchkV, unV, boolEq, isNilV, fadV, extV, slenV, ne_eq, not_true_eq_false, if_false, if_true, ite_true, ite_false, Bool.false_eq_true, Bool.true_eq_false, beq_true, beq_false, beq_self_eq_true, Bool.not_true, Bool.not_false, reduceCtorEq, List.getElem?_toArray, List.getElem?_cons_zero, List.getElem?_cons_succ, boxH, cellsV]
  have hx : Ext H (H.alloc [.int .i64 kk, s, t]) := Ext.alloc _ _
  have hbp : (H.alloc [.int .i64 kk, s, t]).blk H.next = some [.int .i64 kk, s, t] := alloc_new _ _
  have hlt : H.next < (H.alloc [.int .i64 kk, s, t]).next := Nat.lt_succ_self _
  have hb1 := hb.ext hx
  generalize H.alloc [.int .i64 kk, s, t] = H1 at hx hbp hlt hb1 ⊢
  rcases hst with ⟨rfl, rfl, rfl, rfl⟩ | ⟨b, c, g1, g2, g3, g4, g5, g6, g7⟩
  · have hxn := hx.next
    refine s_reg ?_
    simp only [o_cont, o_callT, callV_fn, o_pure, o_eff, o_callF, o_callN, o_guard, gk_tt, gk_ff, gk_tf, gk_ft, gk_u, t_op, t_alt, t_nil, o_nil, POp.ev, Opd.ev, EOp.ev, env0, gu, gv, setD, resV, List.set, List.map, List.map_nil, List.map_cons, Option.map_none, Option.map_some, Option.some.injEq, exists_eq_left', pickV, binV, convV, load1V, max2V, min2V, nilchkV, unV, boolEq, isNilV, fadV, extV, slenV, ne_eq, not_true_eq_false, if_false, if_true, ite_true, ite_false, Bool.false_eq_true, Bool.true_eq_false, beq_true, beq_false, beq_self_eq_true, Bool.not_true, Bool.not_false, reduceCtorEq, List.getElem?_toArray, List.getElem?_cons_zero, List.getElem?_cons_succ, cell_blk hbp, Nat.zero_add]
    refine (markIntS_ok lim H1.next (.slice none 0 0) [] m H1 (by omega) (Vec.nil _ _ _) (by simp) h0 (by omega)).mono ?_
    rintro v H2 ⟨rfl, _, hc2, hn2'⟩
    have hx2 : Ext H1 H2 := ⟨hc2.next, fun b hb => hc2.blk b hb (by omega)⟩
    have hbp2 : H2.blk H.next = some [.int .i64 kk, .slice none 0 0, .slice none 0 0] := by rw [hx2.blk _ hlt]; exact hbp
    have e0 : m + (([] : List Int).length : Int) = m := by simp
    rw [e0]
    simp only [o_cont, o_callT, callV_fn, o_pure, o_eff, o_callF, o_callN, o_guard, gk_tt, gk_ff, gk_tf, gk_ft, gk_u, t_op, t_alt, t_nil, o_nil, POp.ev, Opd.ev, EOp.ev, env0, gu, gv, setD, resV, List.set, List.map, List.map_nil, List.map_cons, Option.map_none, Option.map_some, Option.some.injEq, exists_eq_left', pickV, binV, convV, load1V, max2V, min2V, nilchkV, unV, boolEq, isNilV, fadV, extV, slenV, ne_eq, not_true_eq_false, if_false, if_true, ite_true, ite_false, Bool.false_eq_true, Bool.true_eq_false, beq_true, beq_false, beq_self_eq_true, Bool.not_true, Bool.not_false, reduceCtorEq, List.getElem?_toArray, List.getElem?_cons_zero, List.getElem?_cons_succ]
    refine s_reg ?_
    simp only [o_cont, o_callT, callV_fn, o_pure, o_eff, o_callF, o_callN, o_guard, gk_tt, gk_ff, gk_tf, gk_ft, gk_u, t_op, t_alt, t_nil, o_nil, POp.ev, Opd.ev, EOp.ev, env0, gu, gv, setD, resV, List.set, List.map, List.map_nil, List.map_cons, Option.map_none, Option.map_some, Option.some.injEq, exists_eq_left', pickV, binV, convV, load1V, max2V, min2V, nilchkV, unV, boolEq, isNilV, fadV, extV, slenV, ne_eq, not_true_eq_false, if_false, if_true, ite_true, ite_false, Bool.false_eq_true, Bool.true_eq_false, beq_true, beq_false, beq_self_eq_true, Bool.not_true, Bool.not_false, reduceCtorEq, List.getElem?_toArray, List.getElem?_cons_zero, List.getElem?_cons_succ, cell_blk hbp2, Nat.zero_add]
    refine (markIntS_ok lim H2.next (.slice none 0 0) [] m H2 (by omega) (Vec.nil _ _ _) (by simp) h0 (by omega)).mono ?_
    rintro v H3 ⟨rfl, _, hc3, hn3'⟩
    have hx3 : Ext H2 H3 := ⟨hc3.next, fun b hb => hc3.blk b hb (by omega)⟩
    rw [e0]
    simp only [o_cont, o_callT, callV_fn, o_pure, o_eff, o_callF, o_callN, o_guard, gk_tt, gk_ff, gk_tf, gk_ft, gk_u, t_op, t_alt, t_nil, o_nil, POp.ev, Opd.ev, EOp.ev, env0, gu, gv, setD, resV, List.set, List.map, List.map_nil, List.map_cons, Option.map_none, Option.map_some, Option.some.injEq, exists_eq_left', pickV, binV, convV, load1V, max2V, min2V, nilchkV, unV, boolEq, isNilV, fadV, extV, slenV, ne_eq, not_true_eq_false, if_false, if_true, ite_true, ite_false, Bool.false_eq_true, Bool.true_eq_false, beq_true, beq_false, beq_self_eq_true, Bool.not_true, Bool.not_false, reduceCtorEq, List.getElem?_toArray, List.getElem?_cons_zero, List.getElem?_cons_succ]
    refine s_reg ?_
    simp only [o_cont, o_callT, callV_fn, o_pure, o_eff, o_callF, o_callN, o_guard, gk_tt, gk_ff, gk_tf, gk_ft, gk_u, t_op, t_alt, t_nil, o_nil, POp.ev, Opd.ev, EOp.ev, env0, gu, gv, setD, resV, List.set, List.map, List.map_nil, List.map_cons, Option.map_none, Option.map_some, Option.some.injEq, exists_eq_left', pickV, binV, convV, load1V, max2V, min2V, nilchkV, unV, boolEq, isNilV, fadV, extV, slenV, ne_eq, not_true_eq_false, if_false, if_true, ite_true, ite_false, Bool.false_eq_true, Bool.true_eq_false, beq_true, beq_false, beq_self_eq_true, Bool.not_true, Bool.not_false, reduceCtorEq, List.getElem?_toArray, List.getElem?_cons_zero, List.getElem?_cons_succ]
    refine s_ret1 ?_
    simp +decide only [p_seq_normal, p_seq_ret, p_seq_exit, p_block_normal, p_block_ret, p_block_exit, p_fin_ret, p_fin_normal, reduceIte, Nat.reduceEqDiff, resV, resOne, resL, gv, Option.some.injEq, exists_eq_left', Option.bind_some, Option.map_some, List.getD_cons_zero, List.getD_cons_succ]
    exact ⟨by simp, ⟨_, _, rfl, .inl ⟨rfl, rfl, rfl, rfl⟩⟩, Out.of_ext ((hx.trans hx2).trans hx3)⟩
  · have hvb := g6.ext hx
    have hvc := g7.ext hx
    refine s_reg ?_
    simp only [o_cont, o_callT, callV_fn, o_pure, o_eff, o_callF, o_callN, o_guard, gk_tt, gk_ff, gk_tf, gk_ft, gk_u, t_op, t_alt, t_nil, o_nil, POp.ev, Opd.ev, EOp.ev, env0, gu, gv, setD, resV, List.set, List.map, List.map_nil, List.map_cons, Option.map_none, Option.map_some, Option.some.injEq, exists_eq_left', pickV, binV, convV, load1V, max2V, min2V, nilchkV, unV, boolEq, isNilV, fadV, extV, slenV, ne_eq, not_true_eq_false, if_false, if_true, ite_true, ite_false, Bool.false_eq_true, Bool.true_eq_false, beq_true, beq_false, beq_self_eq_true, Bool.not_true, Bool.not_false, reduceCtorEq, List.getElem?_toArray, List.getElem?_cons_zero, List.getElem?_cons_succ, cell_blk hbp, Nat.zero_add]
    refine (markIntS_ok lim b s low m H1 (by omega) hvb (by omega) h0 (by omega)).mono ?_
    rintro v H2 ⟨rfl, hvb2, hc2, hn2'⟩
    have hbp2 : H2.blk H.next = some [.int .i64 kk, s, t] := by rw [hc2.blk _ hlt (by omega)]; exact hbp
    have hvc2 := hvc.chg hc2 (fun h => g1 h.symm)
    simp only [o_cont, o_callT, callV_fn, o_pure, o_eff, o_callF, o_callN, o_guard, gk_tt, gk_ff, gk_tf, gk_ft, gk_u, t_op, t_alt, t_nil, o_nil, POp.ev, Opd.ev, EOp.ev, env0, gu, gv, setD, resV, List.set, List.map, List.map_nil, List.map_cons, Option.map_none, Option.map_some, Option.some.injEq, exists_eq_left', pickV, binV, convV, load1V, max2V, min2V, nilchkV, unV, boolEq, isNilV, fadV, extV, slenV, ne_eq, not_true_eq_false, if_false, if_true, ite_true, ite_false, Bool.false_eq_true, Bool.true_eq_false, beq_true, beq_false, beq_self_eq_true, Bool.not_true, Bool.not_false, reduceCtorEq, List.getElem?_toArray, List.getElem?_cons_zero, List.getElem?_cons_succ]
    refine s_reg ?_
    simp only [o_cont, o_callT, callV_fn, o_pure, o_eff, o_callF, o_callN, o_guard, gk_tt, gk_ff, gk_tf, gk_ft, gk_u, t_op, t_alt, t_nil, o_nil, POp.ev, Opd.ev, EOp.ev, env0, gu, gv, setD, resV, List.set, List.map, List.map_nil, List.map_cons, Option.map_none, Option.map_some, Option.some.injEq, exists_eq_left', pickV, binV, convV, load1V, max2V, min2V, nilchkV, unV, boolEq, isNilV, fadV, extV, slenV, ne_eq, not_true_eq_false, if_false, if_true, ite_true, ite_false, Bool.false_eq_true, Bool.true_eq_false, beq_true, beq_false, beq_self_eq_true, Bool.not_true, Bool.not_false, reduceCtorEq, List.getElem?_toArray, List.getElem?_cons_zero, List.getElem?_cons_succ, cell_blk hbp2, Nat.zero_add]
    refine (markIntS_ok lim c t high (m + low.length) H2 (by omega) hvc2 (by omega) (by omega) (by omega)).mono ?_
    rintro v H3 ⟨rfl, hvc3, hc3, hn3'⟩
    simp only [o_cont, o_callT, callV_fn, o_pure, o_eff, o_callF, o_callN, o_guard, gk_tt, gk_ff, gk_tf, gk_ft, gk_u, t_op, t_alt, t_nil, o_nil, POp.ev, Opd.ev, EOp.ev, env0, gu, gv, setD, resV, List.set, List.map, List.map_nil, List.map_cons, Option.map_none, Option.map_some, Option.some.injEq, exists_eq_left', pickV, binV, convV, load1V, max2V, min2V, nilchkV, unV, boolEq, isNilV, fadV, extV, slenV, ne_eq, not_true_eq_false, if_false, if_true, ite_true, ite_false, Bool.false_eq_true, Bool.true_eq_false, beq_true, beq_false, beq_self_eq_true, Bool.not_true, Bool.not_false, reduceCtorEq, List.getElem?_toArray, List.getElem?_cons_zero, List.getElem?_cons_succ]
    refine s_reg ?_
    simp only [o_cont, o_callT, callV_fn, o_pure, o_eff, o_callF, o_callN, o_guard, gk_tt, gk_ff, gk_tf, gk_ft, gk_u, t_op, t_alt, t_nil, o_nil, POp.ev, Opd.ev, EOp.ev, env0, gu, gv, setD, resV, List.set, List.map, List.map_nil, List.map_cons, Option.map_none, Option.map_some, Option.some.injEq, exists_eq_left', pickV, binV, convV, load1V, max2V, min2V, nilchkV, unV, boolEq, isNilV, fadV, extV, slenV, ne_eq, not_true_eq_false, if_false, if_true, ite_true, ite_false, Bool.false_eq_true, Bool.true_eq_false, beq_true, beq_false, beq_self_eq_true, Bool.not_true, Bool.not_false, reduceCtorEq, List.getElem?_toArray, List.getElem?_cons_zero, List.getElem?_cons_succ]
    refine s_ret1 ?_
    simp +decide only [p_seq_normal, p_seq_ret, p_seq_exit, p_block_normal, p_block_ret, p_block_exit, p_fin_ret, p_fin_normal, reduceIte, Nat.reduceEqDiff, resV, resOne, resL, gv, Option.some.injEq, exists_eq_left', Option.bind_some, Option.map_some, List.getD_cons_zero, List.getD_cons_succ]
    refine ⟨trivial, ⟨s, t, rfl, .inr ⟨b, c, g1, g2, g3, g4, g5, ?_, ?_⟩⟩, ((Out.of_ext hx).trans (Out.of_chg hc2 g2 g3)).trans (Out.of_chg hc3 g4 g5)⟩
    · have h := hvb2.chg hc3 g1
      exact h
    · exact hvc3

theorem heldBox_ok (lim : Nat) (x : Value) (kk m : Int) (n1 n2 : Nat) (H : AHeap) (hl : lim ≤ H.next) (hv : BoxV H x kk (iota m n1) (iota (m + n1) n2)) (hn : n1 ≤ 100000000) (hn2 : n2 ≤ 100000000) (h0 : 0 ≤ m) (hm : m ≤ 1000000) :
    ACalls Try.prog lim n_laws_heldBox [x, .int .i64 m] H fun v H' => v = .int .i64 (m + n1 + n2) ∧ Ext H H' := by
  obtain ⟨s, t, rfl, hs, ht⟩ := hv
  refine is_laws_heldBox.go rfl ?_
  unfold c_laws_heldBox
  refine s_reg ?_
  simp only [o_cont, o_callT, callV_fn, o_pure, o_eff, o_callF, o_callN, o_guard, gk_tt, gk_ff, gk_tf, gk_ft, gk_u, t_op, t_alt, t_nil, o_nil, POp.ev, Opd.ev, EOp.ev, env0, gu, gv, setD, resV, List.set, List.map, List.map_nil, List.map_cons, Option.map_none, Option.map_some, Option.some.injEq, exists_eq_left', pickV, binV, convV, load1V, max2V, min2V, nilchkV, unV, boolEq, isNilV, fadV, extV, slenV, ne_eq, not_true_eq_false, if_false, if_true, ite_true, ite_false, Bool.false_eq_true, Bool.true_eq_false, beq_true, beq_false, beq_self_eq_true, Bool.not_true, Bool.not_false, reduceCtorEq, List.getElem?_toArray, List.getElem?_cons_zero, List.getElem?_cons_succ, boxH, cellsV]
  have hx : Ext H (H.alloc [.int .i64 kk, s, t]) := Ext.alloc _ _
  have hbp : (H.alloc [.int .i64 kk, s, t]).blk H.next = some [.int .i64 kk, s, t] := alloc_new _ _
  have hs' := hs.keep (Keep.of_ext hx (Nat.le_refl _)) (Nat.le_refl _)
  have ht' := ht.keep (Keep.of_ext hx (Nat.le_refl _)) (Nat.le_refl _)
  generalize H.alloc [.int .i64 kk, s, t] = H1 at hx hbp hs' ht' ⊢
  have d1 : decide (m + (n1 : Int) < 0) = false := by simp; omega
  have d2 : decide (m + (n1 : Int) + (n2 : Int) < 0) = false := by simp; omega
  refine s_reg ?_
  simp only [o_cont, o_callT, callV_fn, o_pure, o_eff, o_callF, o_callN, o_guard, gk_tt, gk_ff, gk_tf, gk_ft, gk_u, t_op, t_alt, t_nil, o_nil, POp.ev, Opd.ev, EOp.ev, env0, gu, gv, setD, resV, List.set, List.map, List.map_nil, List.map_cons, Option.map_none, Option.map_some, Option.some.injEq, exists_eq_left', pickV, binV, convV, load1V, max2V, min2V, nilchkV, unV, boolEq, isNilV, fadV, extV, slenV, ne_eq, not_true_eq_false, if_false, if_true, ite_true, ite_false, Bool.false_eq_true, Bool.true_eq_false, beq_true, beq_false, beq_self_eq_true, Bool.not_true, Bool.not_false, reduceCtorEq, List.getElem?_toArray, List.getElem?_cons_zero, List.getElem?_cons_succ, cell_blk hbp, Nat.zero_add]
  refine (heldIntS_ok _ _ _ _ _ hs' (by omega) h0 (by omega)).eq ?_
  simp only [o_cont, o_callT, callV_fn, o_pure, o_eff, o_callF, o_callN, o_guard, gk_tt, gk_ff, gk_tf, gk_ft, gk_u, t_op, t_alt, t_nil, o_nil, POp.ev, Opd.ev, EOp.ev, env0, gu, gv, setD, resV, List.set, List.map, List.map_nil, List.map_cons, Option.map_none, Option.map_some, Option.some.injEq, exists_eq_left', pickV, binV, convV, load1V, max2V, min2V, nilchkV, unV, boolEq, isNilV, fadV, extV, slenV, ne_eq, not_true_eq_false, if_false, if_true, ite_true, ite_false, Bool.false_eq_true, Bool.true_eq_false, beq_true, beq_false, beq_self_eq_true, Bool.not_true, Bool.not_false, reduceCtorEq, List.getElem?_toArray, List.getElem?_cons_zero, List.getElem?_cons_succ]
  refine s_test ?_
  simp only [o_cont, o_callT, callV_fn, o_pure, o_eff, o_callF, o_callN, o_guard, gk_tt, gk_ff, gk_tf, gk_ft, gk_u, t_op, t_alt, t_nil, o_nil, POp.ev, Opd.ev, EOp.ev, env0, gu, gv, setD, resV, List.set, List.map, List.map_nil, List.map_cons, Option.map_none, Option.map_some, Option.some.injEq, exists_eq_left', pickV, binV, convV, load1V, max2V, min2V, nilchkV, unV, boolEq, isNilV, fadV, extV, slenV, ne_eq, not_true_eq_false, if_false, if_true, ite_true, ite_false, Bool.false_eq_true, Bool.true_eq_false, beq_true, beq_false, beq_self_eq_true, Bool.not_true, Bool.not_false, reduceCtorEq, List.getElem?_toArray, List.getElem?_cons_zero, List.getElem?_cons_succ, d1]
  refine Test.false_ (s_skip1 ?_)
  simp +decide only [p_seq_normal, p_seq_ret, p_seq_exit, p_block_normal, p_block_ret, p_block_exit, p_fin_ret, p_fin_normal, reduceIte, Nat.reduceEqDiff, resV, resOne, resL, gv, Option.some.injEq, exists_eq_left', Option.bind_some, Option.map_some, List.getD_cons_zero, List.getD_cons_succ]
  refine s_reg ?_
  simp only [o_cont, o_callT, callV_fn, o_pure, o_eff, o_callF, o_callN, o_guard, gk_tt, gk_ff, gk_tf, gk_ft, gk_u, t_op, t_alt, t_nil, o_nil, POp.ev, Opd.ev, EOp.ev, env0, gu, gv, setD, resV, List.set, List.map, List.map_nil, List.map_cons, Option.map_none, Option.map_some, Option.some.injEq, exists_eq_left', pickV, binV, convV, load1V, max2V, min2V, nilchkV, unV, boolEq, isNilV, fadV, extV, slenV, ne_eq, not_true_eq_false, if_false, if_true, ite_true, ite_false, Bool.false_eq_true, Bool.true_eq_false, beq_true, beq_false, beq_self_eq_true, Bool.not_true, Bool.not_false, reduceCtorEq, List.getElem?_toArray, List.getElem?_cons_zero, List.getElem?_cons_succ, cell_blk hbp, Nat.zero_add]
  refine (heldIntS_ok _ _ _ _ _ ht' (by omega) (by omega) (by omega)).eq ?_
  simp only [o_cont, o_callT, callV_fn, o_pure, o_eff, o_callF, o_callN, o_guard, gk_tt, gk_ff, gk_tf, gk_ft, gk_u, t_op, t_alt, t_nil, o_nil, POp.ev, Opd.ev, EOp.ev, env0, gu, gv, setD, resV, List.set, List.map, List.map_nil, List.map_cons, Option.map_none, Option.map_some, Option.some.injEq, exists_eq_left', pickV, binV, convV, load1V, max2V, min2V, nilchkV, unV, boolEq, isNilV, fadV, extV, slenV, ne_eq, not_true_eq_false, if_false, if_true, ite_true, ite_false, Bool.false_eq_true, Bool.true_eq_false, beq_true, beq_false, beq_self_eq_true, Bool.not_true, Bool.not_false, reduceCtorEq, List.getElem?_toArray, List.getElem?_cons_zero, List.getElem?_cons_succ]
  refine s_test ?_
  simp only [o_cont, o_callT, callV_fn, o_pure, o_eff, o_callF, o_callN, o_guard, gk_tt, gk_ff, gk_tf, gk_ft, gk_u, t_op, t_alt, t_nil, o_nil, POp.ev, Opd.ev, EOp.ev, env0, gu, gv, setD, resV, List.set, List.map, List.map_nil, List.map_cons, Option.map_none, Option.map_some, Option.some.injEq, exists_eq_left', pickV, binV, convV, load1V, max2V, min2V, nilchkV, unV, boolEq, isNilV, fadV, extV, slenV, ne_eq, not_true_eq_false, if_false, if_true, ite_true, ite_false, Bool.false_eq_true, Bool.true_eq_false, beq_true, beq_false, beq_self_eq_true, Bool.not_true, Bool.not_false, reduceCtorEq, List.getElem?_toArray, List.getElem?_cons_zero, List.getElem?_cons_succ, d2]
  refine Test.false_ (s_skip1 ?_)
  simp +decide only [p_seq_normal, p_seq_ret, p_seq_exit, p_block_normal, p_block_ret, p_block_exit, p_fin_ret, p_fin_normal, reduceIte, Nat.reduceEqDiff, resV, resOne, resL, gv, Option.some.injEq, exists_eq_left', Option.bind_some, Option.map_some, List.getD_cons_zero, List.getD_cons_succ]
  refine s_reg ?_
  simp only [o_cont, o_callT, callV_fn, o_pure, o_eff, o_callF, o_callN, o_guard, gk_tt, gk_ff, gk_tf, gk_ft, gk_u, t_op, t_alt, t_nil, o_nil, POp.ev, Opd.ev, EOp.ev, env0, gu, gv, setD, resV, List.set, List.map, List.map_nil, List.map_cons, Option.map_none, Option.map_some, Option.some.injEq, exists_eq_left', pickV, binV, convV, load1V, max2V, min2V, nilchkV, unV, boolEq, isNilV, fadV, extV, slenV, ne_eq, not_true_eq_false, if_false, if_true, ite_true, ite_false, Bool.false_eq_true, Bool.true_eq_false, beq_true, beq_false, beq_self_eq_true, Bool.not_true, Bool.not_false, reduceCtorEq, List.getElem?_toArray, List.getElem?_cons_zero, List.getElem?_cons_succ]
  refine s_ret1 ?_
  simp +decide only [p_seq_normal, p_seq_ret, p_seq_exit, p_block_normal, p_block_ret, p_block_exit, p_fin_ret, p_fin_normal, reduceIte, Nat.reduceEqDiff, resV, resOne, resL, gv, Option.some.injEq, exists_eq_left', Option.bind_some, Option.map_some, List.getD_cons_zero, List.getD_cons_succ]
  exact ⟨trivial, hx⟩

theorem eqBox_ok (lim : Nat) (x y : Value) (k k' : Int) (low high low' high' : List Int) (H : AHeap) (hl : lim ≤ H.next) (hv : BoxV H x k low high) (hv2 : BoxV H y k' low' high') (hn : low.length ≤ 100000000) (hn2 : high.length ≤ 100000000) (he : k = k' ∧ low = low' ∧ high = high') :
    ACalls Try.prog lim n_laws_eqBox [x, y] H fun v H' => v = .bool true ∧ Ext H H' := by
  obtain ⟨s, t, rfl, hs, ht⟩ := hv
  obtain ⟨s', t', rfl, hs', ht'⟩ := hv2
  obtain ⟨rfl, rfl, rfl⟩ := he
  refine is_laws_eqBox.go rfl ?_
  unfold c_laws_eqBox
  refine s_reg ?_
  simp only [o_cont, o_callT, callV_fn, o_pure, o_eff, o_callF, o_callN, o_guard, gk_tt, gk_ff, gk_tf, gk_ft, gk_u, t_op, t_alt, t_nil, o_nil, POp.ev, Opd.ev, EOp.ev, env0, gu, gv, setD, resV, List.set, List.map, List.map_nil, List.map_cons, Option.map_none, Option.map_some, Option.some.injEq, exists_eq_left', pickV, binV, convV, load1V, max2V, min2V, nilchkV, unV, boolEq, isNilV, fadV, extV, slenV, ne_eq, not_true_eq_false, if_false, if_true, ite_true, ite_false, Bool.false_eq_true, Bool.true_eq_false, beq_true, beq_false, beq_self_eq_true, Bool.not_true, Bool.not_false, reduceCtorEq, List.getElem?_toArray, List.getElem?_cons_zero, List.getElem?_cons_succ, boxH, cellsV]
  have hx : Ext H ((H.alloc [.int .i64 k, s, t]).alloc [.int .i64 k, s', t']) := (Ext.alloc _ _).trans (Ext.alloc _ _)
  have hbp : ((H.alloc [.int .i64 k, s, t]).alloc [.int .i64 k, s', t']).blk H.next = some [.int .i64 k, s, t] := by rw [alloc_old _ _ (Nat.lt_succ_self _)]; exact alloc_new _ _
  have hbq : ((H.alloc [.int .i64 k, s, t]).alloc [.int .i64 k, s', t']).blk (H.alloc [.int .i64 k, s, t]).next = some [.int .i64 k, s', t'] := alloc_new _ _
  generalize (H.alloc [.int .i64 k, s, t]).next = q at hbq ⊢
  generalize (H.alloc [.int .i64 k, s, t]).alloc [.int .i64 k, s', t'] = H1 at hx hbp hbq ⊢
  have q1 := hs.keep (Keep.of_ext hx (Nat.le_refl _)) (Nat.le_refl _)
  have q2 := ht.keep (Keep.of_ext hx (Nat.le_refl _)) (Nat.le_refl _)
  have q3 := hs'.keep (Keep.of_ext hx (Nat.le_refl _)) (Nat.le_refl _)
  have q4 := ht'.keep (Keep.of_ext hx (Nat.le_refl _)) (Nat.le_refl _)
  have d1 : (k != k) = false := by simp
  have e1 : decide (low = low) = true := by simp
  have e2 : decide (high = high) = true := by simp
  refine s_test ?_
  simp only [o_cont, o_callT, callV_fn, o_pure, o_eff, o_callF, o_callN, o_guard, gk_tt, gk_ff, gk_tf, gk_ft, gk_u, t_op, t_alt, t_nil, o_nil, POp.ev, Opd.ev, EOp.ev, env0, gu, gv, setD, resV, List.set, List.map, List.map_nil, List.map_cons, Option.map_none, Option.map_some, Option.some.injEq, exists_eq_left', pickV, binV, convV, load1V, max2V, min2V, nilchkV, unV, boolEq, isNilV, fadV, extV, slenV, ne_eq, not_true_eq_false, if_false, if_true, ite_true, ite_false, Bool.false_eq_true, Bool.true_eq_false, beq_true, beq_false, beq_self_eq_true, Bool.not_true, Bool.not_false, reduceCtorEq, List.getElem?_toArray, List.getElem?_cons_zero, List.getElem?_cons_succ, cell_blk hbp, cell_blk hbq, Nat.zero_add, d1]
  refine Test.false_ (s_skip1 ?_)
  simp +decide only [p_seq_normal, p_seq_ret, p_seq_exit, p_block_normal, p_block_ret, p_block_exit, p_fin_ret, p_fin_normal, reduceIte, Nat.reduceEqDiff, resV, resOne, resL, gv, Option.some.injEq, exists_eq_left', Option.bind_some, Option.map_some, List.getD_cons_zero, List.getD_cons_succ]
  refine s_test ?_
  simp only [o_cont, o_callT, callV_fn, o_pure, o_eff, o_callF, o_callN, o_guard, gk_tt, gk_ff, gk_tf, gk_ft, gk_u, t_op, t_alt, t_nil, o_nil, POp.ev, Opd.ev, EOp.ev, env0, gu, gv, setD, resV, List.set, List.map, List.map_nil, List.map_cons, Option.map_none, Option.map_some, Option.some.injEq, exists_eq_left', pickV, binV, convV, load1V, max2V, min2V, nilchkV, unV, boolEq, isNilV, fadV, extV, slenV, ne_eq, not_true_eq_false, if_false, if_true, ite_true, ite_false, Bool.false_eq_true, Bool.true_eq_false, beq_true, beq_false, beq_self_eq_true, Bool.not_true, Bool.not_false, reduceCtorEq, List.getElem?_toArray, List.getElem?_cons_zero, List.getElem?_cons_succ, cell_blk hbp, cell_blk hbq, Nat.zero_add]
  refine (eqIntS_ok _ _ _ _ _ _ q1 q3 (by omega)).eq ?_
  simp only [o_cont, o_callT, callV_fn, o_pure, o_eff, o_callF, o_callN, o_guard, gk_tt, gk_ff, gk_tf, gk_ft, gk_u, t_op, t_alt, t_nil, o_nil, POp.ev, Opd.ev, EOp.ev, env0, gu, gv, setD, resV, List.set, List.map, List.map_nil, List.map_cons, Option.map_none, Option.map_some, Option.some.injEq, exists_eq_left', pickV, binV, convV, load1V, max2V, min2V, nilchkV, unV, boolEq, isNilV, fadV, extV, slenV, ne_eq, not_true_eq_false, if_false, if_true, ite_true, ite_false, Bool.false_eq_true, Bool.true_eq_false, beq_true, beq_false, beq_self_eq_true, Bool.not_true, Bool.not_false, reduceCtorEq, List.getElem?_toArray, List.getElem?_cons_zero, List.getElem?_cons_succ, e1]
  refine Test.false_ (s_skip1 ?_)
  simp +decide only [p_seq_normal, p_seq_ret, p_seq_exit, p_block_normal, p_block_ret, p_block_exit, p_fin_ret, p_fin_normal, reduceIte, Nat.reduceEqDiff, resV, resOne, resL, gv, Option.some.injEq, exists_eq_left', Option.bind_some, Option.map_some, List.getD_cons_zero, List.getD_cons_succ]
  refine s_test ?_
  simp only [o_cont, o_callT, callV_fn, o_pure, o_eff, o_callF, o_callN, o_guard, gk_tt, gk_ff, gk_tf, gk_ft, gk_u, t_op, t_alt, t_nil, o_nil, POp.ev, Opd.ev, EOp.ev, env0, gu, gv, setD, resV, List.set, List.map, List.map_nil, List.map_cons, Option.map_none, Option.map_some, Option.some.injEq, exists_eq_left', pickV, binV, convV, load1V, max2V, min2V, nilchkV, unV, boolEq, isNilV, fadV, extV, slenV, ne_eq, not_true_eq_false, if_false, if_true, ite_true, ite_false, Bool.false_eq_true, Bool.true_eq_false, beq_true, beq_false, beq_self_eq_true, Bool.not_true, Bool.not_false, reduceCtorEq, List.getElem?_toArray, List.getElem?_cons_zero, List.getElem?_cons_succ, cell_blk hbp, cell_blk hbq, Nat.zero_add]
  refine (eqIntS_ok _ _ _ _ _ _ q2 q4 (by omega)).eq ?_
  simp only [o_cont, o_callT, callV_fn, o_pure, o_eff, o_callF, o_callN, o_guard, gk_tt, gk_ff, gk_tf, gk_ft, gk_u, t_op, t_alt, t_nil, o_nil, POp.ev, Opd.ev, EOp.ev, env0, gu, gv, setD, resV, List.set, List.map, List.map_nil, List.map_cons, Option.map_none, Option.map_some, Option.some.injEq, exists_eq_left', pickV, binV, convV, load1V, max2V, min2V, nilchkV, unV, boolEq, isNilV, fadV, extV, slenV, ne_eq, not_true_eq_false, if_false, if_true, ite_true, ite_false, Bool.false_eq_true, Bool.true_eq_false, beq_true, beq_false, beq_self_eq_true, Bool.not_true, Bool.not_false, reduceCtorEq, List.getElem?_toArray, List.getElem?_cons_zero, List.getElem?_cons_succ, e2]
  refine Test.false_ (s_skip1 ?_)
  simp +decide only [p_seq_normal, p_seq_ret, p_seq_exit, p_block_normal, p_block_ret, p_block_exit, p_fin_ret, p_fin_normal, reduceIte, Nat.reduceEqDiff, resV, resOne, resL, gv, Option.some.injEq, exists_eq_left', Option.bind_some, Option.map_some, List.getD_cons_zero, List.getD_cons_succ]
  refine s_reg ?_
  simp only [o_cont, o_callT, callV_fn, o_pure, o_eff, o_callF, o_callN, o_guard, gk_tt, gk_ff, gk_tf, gk_ft, gk_u, t_op, t_alt, t_nil, o_nil, POp.ev, Opd.ev, EOp.ev, env0, gu, gv, setD, resV, List.set, List.map, List.map_nil, List.map_cons, Option.map_none, Option.map_some, Option.some.injEq, exists_eq_left', pickV, binV, convV, load1V, max2V, min2V, nilchkV, unV, boolEq, isNilV, fadV, extV, slenV, ne_eq, not_true_eq_false, if_false, if_true, ite_true, ite_false, Bool.false_eq_true, Bool.true_eq_false, beq_true, beq_false, beq_self_eq_true, Bool.not_true, Bool.not_false, reduceCtorEq, List.getElem?_toArray, List.getElem?_cons_zero, List.getElem?_cons_succ]
  refine s_ret1 ?_
  simp +decide only [p_seq_normal, p_seq_ret, p_seq_exit, p_block_normal, p_block_ret, p_block_exit, p_fin_ret, p_fin_normal, reduceIte, Nat.reduceEqDiff, resV, resOne, resL, gv, Option.some.injEq, exists_eq_left', Option.bind_some, Option.map_some, List.getD_cons_zero, List.getD_cons_succ]
  exact ⟨trivial, hx⟩
end Go.Proofs.Ytfnjjkljpegoeaa
