/- The box laws, part 3 of their walk: the specification's making of a box; no condition beyond stated lengths and sizes. -/
import Derived.Test.YtfnjjkljpegoeaaK6
namespace Go.Proofs.Ytfnjjkljpegoeaa
open Go.Ab
set_option linter.unusedSimpArgs false
set_option linter.unusedVariables false

def hv (x : Int) : Int := x.tdiv 2
def normB : Nat → List Int → List Int → Nat × List Int × List Int
  | 0, l, h => (0, l, h)
  | k + 1, l, h => if oddB l h then (k + 1, l, h) else normB k (l.map hv) (h.map hv)
/-- numbers of which a half, the opposite and a sum with a small one stay in the machine's range -/
def InR (l : List Int) : Prop := ∀ x ∈ l, -4611686018427387904 ≤ x ∧ x ≤ 4611686018427387904
theorem InR.get {l : List Int} (h : InR l) {i : Nat} (hi : i < l.length) : -4611686018427387904 ≤ l[i] ∧ l[i] ≤ 4611686018427387904 := h _ (List.getElem_mem hi)
theorem hv_range {x : Int} (h : -4611686018427387904 ≤ x ∧ x ≤ 4611686018427387904) : -4611686018427387904 ≤ hv x ∧ hv x ≤ 4611686018427387904 := by
  unfold hv
  rcases Int.le_total 0 x with h0 | h0
  · rw [Int.tdiv_eq_ediv_of_nonneg h0]; omega
  · have : x.tdiv 2 = -((-x) / 2) := by rw [← Int.tdiv_eq_ediv_of_nonneg (by omega), Int.neg_tdiv, Int.neg_neg]
    rw [this]; omega
theorem InR.half {l : List Int} (h : InR l) : InR (l.map hv) := by
  intro x hx
  obtain ⟨y, hy, rfl⟩ := List.mem_map.1 hx
  exact hv_range (h y hy)
theorem hv_wrap {x : Int} (h : -4611686018427387904 ≤ x ∧ x ≤ 4611686018427387904) : IntKind.i64.wrap (x.tdiv 2) = hv x := by
  have := hv_range h
  unfold hv at this ⊢
  rw [IntKind.wrap_i64]
  omega

theorem bxEven_ok (lim : Nat) (v : Value) (k : Int) (low high : List Int) (H : AHeap) (hl : lim ≤ H.next) (hv : BoxV H v k low high) (hn : low.length ≤ 1000000000) (hlen' : high.length = low.length) :
    ACalls Try.prog lim n_spec_bxEven [v] H fun v H' => v = .bool (!oddB low high) ∧ Ext H H' := by
  obtain ⟨s, t, rfl, hs, ht⟩ := hv
  refine is_spec_bxEven.go rfl ?_
  unfold c_spec_bxEven
  refine s_reg ?_
  simp only [o_cont, o_callT, callV_fn, o_pure, o_eff, o_callF, o_callN, o_guard, gk_tt, gk_ff, gk_tf, gk_ft, gk_u, t_op, t_alt, t_nil, o_nil, POp.ev, Opd.ev, EOp.ev, env0, gu, gv, setD, resV, List.set, List.map, List.map_nil, List.map_cons, Option.map_none, Option.map_some, Option.some.injEq, exists_eq_left', pickV, binV, convV, load1V, max2V, min2V, nilchkV, unV, boolEq, isNilV, fadV, extV, slenV, ne_eq, not_true_eq_false, if_false, if_true, ite_true, ite_false, Bool.false_eq_true, Bool.true_eq_false, beq_true, beq_false, beq_self_eq_true, Bool.not_true, Bool.not_false, reduceCtorEq, List.getElem?_toArray, List.getElem?_cons_zero, List.getElem?_cons_succ, boxH, cellsV]
  have hx : Ext H (H.alloc [.int .i64 k, s, t]) := Ext.alloc _ _
  have hs' := hs.keep (Keep.of_ext hx (Nat.le_refl _)) (Nat.le_refl _)
  have ht' := ht.keep (Keep.of_ext hx (Nat.le_refl _)) (Nat.le_refl _)
  have c1 : (H.alloc [.int .i64 k, s, t]).cell H.next 1 = some s := alloc_cell _ _ _
  have c2 : (H.alloc [.int .i64 k, s, t]).cell H.next 2 = some t := alloc_cell _ _ _
  generalize H.alloc [.int .i64 k, s, t] = H1 at hx hs' ht' c1 c2 ⊢
  refine s_assoc (s_reg ?_)
  simp only [o_cont, o_callT, callV_fn, o_pure, o_eff, o_callF, o_callN, o_guard, gk_tt, gk_ff, gk_tf, gk_ft, gk_u, t_op, t_alt, t_nil, o_nil, POp.ev, Opd.ev, EOp.ev, env0, gu, gv, setD, resV, List.set, List.map, List.map_nil, List.map_cons, Option.map_none, Option.map_some, Option.some.injEq, exists_eq_left', pickV, binV, convV, load1V, max2V, min2V, nilchkV, unV, boolEq, isNilV, fadV, extV, slenV, ne_eq, not_true_eq_false, if_false, if_true, ite_true, ite_false, Bool.false_eq_true, Bool.true_eq_false, beq_true, beq_false, beq_self_eq_true, Bool.not_true, Bool.not_false, reduceCtorEq, List.getElem?_toArray, List.getElem?_cons_zero, List.getElem?_cons_succ, c1, hs'.lenV, Nat.zero_add]
  refine s_block ?_
  refine s_loop1 (fun n e' H' => H' = H1 ∧ ∃ (i : Nat) (x3 x4 : Value), i + n = low.length ∧ oddB low high = oddB (low.drop i) (high.drop i) ∧
      e' = [.agg #[.int .i64 k, s, t], .pointer (some ⟨H.next, 0, none⟩), .bool false, x3, x4, s, .int .i64 low.length, .int .i64 i]) low.length ⟨rfl, 0, _, _, by omega, by simp, rfl⟩ ?_
  rintro n e' _ ⟨rfl, i, x3, x4, hin, hall, rfl⟩
  refine s_test ?_
  simp only [o_cont, o_callT, callV_fn, o_pure, o_eff, o_callF, o_callN, o_guard, gk_tt, gk_ff, gk_tf, gk_ft, gk_u, t_op, t_alt, t_nil, o_nil, POp.ev, Opd.ev, EOp.ev, env0, gu, gv, setD, resV, List.set, List.map, List.map_nil, List.map_cons, Option.map_none, Option.map_some, Option.some.injEq, exists_eq_left', pickV, binV, convV, load1V, max2V, min2V, nilchkV, unV, boolEq, isNilV, fadV, extV, slenV, ne_eq, not_true_eq_false, if_false, if_true, ite_true, ite_false, Bool.false_eq_true, Bool.true_eq_false, beq_true, beq_false, beq_self_eq_true, Bool.not_true, Bool.not_false, reduceCtorEq, List.getElem?_toArray, List.getElem?_cons_zero, List.getElem?_cons_succ]
  refine Test.split (fun hlt => ?_) (fun hlt => ?_)
  · have hlt' : i < low.length := by simpa using hlt
    have hlt2 : i < high.length := by omega
    rw [List.drop_eq_getElem_cons hlt', List.drop_eq_getElem_cons hlt2] at hall
    simp only [oddB] at hall
    refine s_skip1 ?_
    simp +decide only [p_seq_normal, p_seq_ret, p_seq_exit, p_block_normal, p_block_ret, p_block_exit, p_fin_ret, p_fin_normal, reduceIte, Nat.reduceEqDiff, resV, resOne, resL, gv, Option.some.injEq, exists_eq_left', Option.bind_some, Option.map_some, List.getD_cons_zero, List.getD_cons_succ]
    refine s_block ?_
    obtain ⟨bb, o, h1, h2, h3⟩ := SlI.get hs' hlt'
    obtain ⟨bb', o', h1', h2', h3'⟩ := SlI.get ht' hlt2
    refine s_reg ?_
    simp only [o_cont, o_callT, callV_fn, o_pure, o_eff, o_callF, o_callN, o_guard, gk_tt, gk_ff, gk_tf, gk_ft, gk_u, t_op, t_alt, t_nil, o_nil, POp.ev, Opd.ev, EOp.ev, env0, gu, gv, setD, resV, List.set, List.map, List.map_nil, List.map_cons, Option.map_none, Option.map_some, Option.some.injEq, exists_eq_left', pickV, binV, convV, load1V, max2V, min2V, nilchkV, unV, boolEq, isNilV, fadV, extV, slenV, ne_eq, not_true_eq_false, if_false, if_true, ite_true, ite_false, Bool.false_eq_true, Bool.true_eq_false, beq_true, beq_false, beq_self_eq_true, Bool.not_true, Bool.not_false, reduceCtorEq, List.getElem?_toArray, List.getElem?_cons_zero, List.getElem?_cons_succ, h1, h3]
    generalize low[i] = x at hall h3 ⊢
    generalize high[i] = y at hall h3' ⊢
    have e2 : ¬ ((2 : Int) = 0) := by decide
    refine s_test1_same (x.tmod 2 != 0 || y.tmod 2 != 0) ?_ (fun hg => ?_) (fun hg => ?_)
    · cases hxo : (x.tmod 2 != 0)
      · simp only [o_cont, o_callT, callV_fn, o_pure, o_eff, o_callF, o_callN, o_guard, gk_tt, gk_ff, gk_tf, gk_ft, gk_u, t_op, t_alt, t_nil, o_nil, POp.ev, Opd.ev, EOp.ev, env0, gu, gv, setD, resV, List.set, List.map, List.map_nil, List.map_cons, Option.map_none, Option.map_some, Option.some.injEq, exists_eq_left', pickV, binV, convV, load1V, max2V, min2V, nilchkV, unV, boolEq, isNilV, fadV, extV, slenV, ne_eq, not_true_eq_false, if_false, if_true, ite_true, ite_false, Bool.false_eq_true, Bool.true_eq_false, beq_true, beq_false, beq_self_eq_true, Bool.not_true, Bool.not_false, reduceCtorEq, List.getElem?_toArray, List.getElem?_cons_zero, List.getElem?_cons_succ, if_neg e2, hxo, c2, h1', h3', Nat.zero_add]
        simp
      · simp only [o_cont, o_callT, callV_fn, o_pure, o_eff, o_callF, o_callN, o_guard, gk_tt, gk_ff, gk_tf, gk_ft, gk_u, t_op, t_alt, t_nil, o_nil, POp.ev, Opd.ev, EOp.ev, env0, gu, gv, setD, resV, List.set, List.map, List.map_nil, List.map_cons, Option.map_none, Option.map_some, Option.some.injEq, exists_eq_left', pickV, binV, convV, load1V, max2V, min2V, nilchkV, unV, boolEq, isNilV, fadV, extV, slenV, ne_eq, not_true_eq_false, if_false, if_true, ite_true, ite_false, Bool.false_eq_true, Bool.true_eq_false, beq_true, beq_false, beq_self_eq_true, Bool.not_true, Bool.not_false, reduceCtorEq, List.getElem?_toArray, List.getElem?_cons_zero, List.getElem?_cons_succ, if_neg e2, hxo]
        simp
    · refine s_reg ?_
      simp only [o_cont, o_callT, callV_fn, o_pure, o_eff, o_callF, o_callN, o_guard, gk_tt, gk_ff, gk_tf, gk_ft, gk_u, t_op, t_alt, t_nil, o_nil, POp.ev, Opd.ev, EOp.ev, env0, gu, gv, setD, resV, List.set, List.map, List.map_nil, List.map_cons, Option.map_none, Option.map_some, Option.some.injEq, exists_eq_left', pickV, binV, convV, load1V, max2V, min2V, nilchkV, unV, boolEq, isNilV, fadV, extV, slenV, ne_eq, not_true_eq_false, if_false, if_true, ite_true, ite_false, Bool.false_eq_true, Bool.true_eq_false, beq_true, beq_false, beq_self_eq_true, Bool.not_true, Bool.not_false, reduceCtorEq, List.getElem?_toArray, List.getElem?_cons_zero, List.getElem?_cons_succ]
      refine s_ret1 ?_
      simp +decide only [p_seq_normal, p_seq_ret, p_seq_exit, p_block_normal, p_block_ret, p_block_exit, p_fin_ret, p_fin_normal, reduceIte, Nat.reduceEqDiff, resV, resOne, resL, gv, Option.some.injEq, exists_eq_left', Option.bind_some, Option.map_some, List.getD_cons_zero, List.getD_cons_succ]
      rw [hg, Bool.true_or] at hall
      exact ⟨by rw [hall]; rfl, hx⟩
    · rw [hg, Bool.false_or] at hall
      refine s_skip1 ?_
      simp +decide only [p_seq_normal, p_seq_ret, p_seq_exit, p_block_normal, p_block_ret, p_block_exit, p_fin_ret, p_fin_normal, reduceIte, Nat.reduceEqDiff, resV, resOne, resL, gv, Option.some.injEq, exists_eq_left', Option.bind_some, Option.map_some, List.getD_cons_zero, List.getD_cons_succ]
      refine s_reg1 ?_
      simp only [o_cont, o_callT, callV_fn, o_pure, o_eff, o_callF, o_callN, o_guard, gk_tt, gk_ff, gk_tf, gk_ft, gk_u, t_op, t_alt, t_nil, o_nil, POp.ev, Opd.ev, EOp.ev, env0, gu, gv, setD, resV, List.set, List.map, List.map_nil, List.map_cons, Option.map_none, Option.map_some, Option.some.injEq, exists_eq_left', pickV, binV, convV, load1V, max2V, min2V, nilchkV, unV, boolEq, isNilV, fadV, extV, slenV, ne_eq, not_true_eq_false, if_false, if_true, ite_true, ite_false, Bool.false_eq_true, Bool.true_eq_false, beq_true, beq_false, beq_self_eq_true, Bool.not_true, Bool.not_false, reduceCtorEq, List.getElem?_toArray, List.getElem?_cons_zero, List.getElem?_cons_succ, add1 (i := i) (by omega)]
      simp +decide only [p_seq_normal, p_seq_ret, p_seq_exit, p_block_normal, p_block_ret, p_block_exit, p_fin_ret, p_fin_normal, reduceIte, Nat.reduceEqDiff, resV, resOne, resL, gv, Option.some.injEq, exists_eq_left', Option.bind_some, Option.map_some, List.getD_cons_zero, List.getD_cons_succ]
      exact Round.mk (n - 1) (by omega) ⟨rfl, i + 1, _, _, by omega, hall, rfl⟩
  · have hge : low.length ≤ i := by simp at hlt; omega
    rw [List.drop_of_length_le hge, List.drop_of_length_le (by omega)] at hall
    refine s_exit1 ?_
    simp +decide only [p_seq_normal, p_seq_ret, p_seq_exit, p_block_normal, p_block_ret, p_block_exit, p_fin_ret, p_fin_normal, reduceIte, Nat.reduceEqDiff, resV, resOne, resL, gv, Option.some.injEq, exists_eq_left', Option.bind_some, Option.map_some, List.getD_cons_zero, List.getD_cons_succ]
    refine s_reg ?_
    simp only [o_cont, o_callT, callV_fn, o_pure, o_eff, o_callF, o_callN, o_guard, gk_tt, gk_ff, gk_tf, gk_ft, gk_u, t_op, t_alt, t_nil, o_nil, POp.ev, Opd.ev, EOp.ev, env0, gu, gv, setD, resV, List.set, List.map, List.map_nil, List.map_cons, Option.map_none, Option.map_some, Option.some.injEq, exists_eq_left', pickV, binV, convV, load1V, max2V, min2V, nilchkV, unV, boolEq, isNilV, fadV, extV, slenV, ne_eq, not_true_eq_false, if_false, if_true, ite_true, ite_false, Bool.false_eq_true, Bool.true_eq_false, beq_true, beq_false, beq_self_eq_true, Bool.not_true, Bool.not_false, reduceCtorEq, List.getElem?_toArray, List.getElem?_cons_zero, List.getElem?_cons_succ]
    refine s_ret1 ?_
    simp +decide only [p_seq_normal, p_seq_ret, p_seq_exit, p_block_normal, p_block_ret, p_block_exit, p_fin_ret, p_fin_normal, reduceIte, Nat.reduceEqDiff, resV, resOne, resL, gv, Option.some.injEq, exists_eq_left', Option.bind_some, Option.map_some, List.getD_cons_zero, List.getD_cons_succ]
    exact ⟨by rw [hall]; rfl, hx⟩

/-- a new box and whether it is one -/
def BoxR (lo : Nat) (H : AHeap) (v : Value) (ok : Bool) (k : Int) (low high : List Int) : Prop :=
  (ok = false ∧ v = .tuple #[.agg #[.int .i64 0, .slice none 0 0, .slice none 0 0], .bool false]) ∨
  (ok = true ∧ ∃ s t b c, v = .tuple #[.agg #[.int .i64 k, s, t], .bool true] ∧ lo ≤ b ∧ lo ≤ c ∧ b ≠ c ∧ VecI H b s low ∧ VecI H c t high)
def makeB (k : Nat) (low high : List Int) : Bool × Nat × List Int × List Int := let r := normB k low high; (goodB r.1 r.2.1 r.2.2, r)

/-- where the making of a box stands: the result's block, the box's block and its sides' blocks -/
structure MkSt (H H' : AHeap) (res out b c : Nat) (n : Int) (s t : Value) (low high : List Int) : Prop where
  ext : Ext H H'
  ge : H.next ≤ res ∧ H.next ≤ out ∧ H.next ≤ b ∧ H.next ≤ c
  lt : res < H'.next ∧ out < H'.next ∧ b < H'.next ∧ c < H'.next
  ne : res ≠ out ∧ res ≠ b ∧ res ≠ c ∧ out ≠ b ∧ out ≠ c ∧ b ≠ c
  br : H'.blk res = some [.int .i64 0, .slice none 0 0, .slice none 0 0]
  bo : H'.blk out = some [.int .i64 n, s, t]
  vl : VecI H' b s low
  vh : VecI H' c t high
theorem MkSt.mono {H H' H'' : AHeap} {res out b c : Nat} {n : Int} {s t : Value} {low high : List Int} (h : MkSt H H' res out b c n s t low high) (hx : Ext H' H'') : MkSt H H'' res out b c n s t low high := by
  obtain ⟨h1, h2, h3, h4, h5, h6, h7, h8⟩ := h
  have hn := hx.next
  exact ⟨h1.trans hx, h2, by omega, h4, by rw [hx.blk _ h3.1]; exact h5, by rw [hx.blk _ h3.2.1]; exact h6, h7.ext hx, h8.ext hx⟩
theorem MkSt.boxV {H H' : AHeap} {res out b c : Nat} {n : Int} {s t : Value} {low high : List Int} (h : MkSt H H' res out b c n s t low high) : BoxV H' (.agg #[.int .i64 n, s, t]) n low high := ⟨s, t, rfl, h.vl.sl, h.vh.sl⟩
theorem MkSt.boxP {H H' : AHeap} {res out b c : Nat} {n : Int} {s t : Value} {low high : List Int} (h : MkSt H H' res out b c n s t low high) : BoxP H' out n s t low high := ⟨h.bo, h.vl.sl, h.vh.sl⟩
theorem MkSt.exp {H H' : AHeap} {res out b c : Nat} {n : Int} {s t : Value} {low high : List Int} (h : MkSt H H' res out b c n s t low high) (m : Int) : MkSt H (H'.put out [.int .i64 m, s, t]) res out b c m s t low high := by
  obtain ⟨h1, h2, h3, h4, h5, h6, h7, h8⟩ := h
  have hc := Chg.put out H' [.int .i64 m, s, t]
  exact ⟨hc.ext h1 h2.2.1, h2, h3, h4, by rw [put_ne _ _ h4.1]; exact h5, put_same _ _ _, h7.chg hc (fun h => h4.2.2.2.1 h.symm), h8.chg hc (fun h => h4.2.2.2.2.1 h.symm)⟩
theorem MkSt.turnL {H H' : AHeap} {res out b c : Nat} {n : Int} {s t : Value} {low high : List Int} (h : MkSt H H' res out b c n s t low high) {lim : Nat} (hl : lim ≤ H.next) {i : Nat} (x : Int) (hi : i < low.length) :
    ∃ H'', storeH lim H' 1 (.pointer (some ⟨b, i, none⟩)) (.int .i64 x) = some (undef, H'') ∧ MkSt H H'' res out b c n s t (low.set i x) high := by
  obtain ⟨h1, h2, h3, h4, h5, h6, h7, h8⟩ := h
  obtain ⟨cs, g1, g2⟩ := h7.put1 (lim := lim) (by omega) (cells_int .i64 x) hi
  have hc := Chg.put b H' cs
  refine ⟨_, g1, hc.ext h1 h2.2.2.1, h2, h3, h4, by rw [put_ne _ _ h4.2.1]; exact h5, by rw [put_ne _ _ h4.2.2.2.1]; exact h6, ?_, h8.chg hc (fun h => h4.2.2.2.2.2 h.symm)⟩
  unfold VecI
  rw [List.length_set, List.map_set]
  exact g2
theorem MkSt.turnH {H H' : AHeap} {res out b c : Nat} {n : Int} {s t : Value} {low high : List Int} (h : MkSt H H' res out b c n s t low high) {lim : Nat} (hl : lim ≤ H.next) {i : Nat} (x : Int) (hi : i < high.length) :
    ∃ H'', storeH lim H' 1 (.pointer (some ⟨c, i, none⟩)) (.int .i64 x) = some (undef, H'') ∧ MkSt H H'' res out b c n s t low (high.set i x) := by
  obtain ⟨h1, h2, h3, h4, h5, h6, h7, h8⟩ := h
  obtain ⟨cs, g1, g2⟩ := h8.put1 (lim := lim) (by omega) (cells_int .i64 x) hi
  have hc := Chg.put c H' cs
  refine ⟨_, g1, hc.ext h1 h2.2.2.2, h2, h3, h4, by rw [put_ne _ _ h4.2.2.1]; exact h5, by rw [put_ne _ _ h4.2.2.2.2.1]; exact h6, h7.chg hc h4.2.2.2.2.2, ?_⟩
  unfold VecI
  rw [List.length_set, List.map_set]
  exact g2

theorem bxMake_ok (lim : Nat) (k : Nat) (s t : Value) (low high : List Int) (H : AHeap) (hl : lim ≤ H.next) (hs : SlI H s low) (ht : SlI H t high) (hn : low.length ≤ 100000000) (hlen : high.length = low.length) (hk : k ≤ 1000000) (hr : InR low) (hr2 : InR high) :
    ACalls Try.prog lim n_spec_bxMake [.int .i64 k, s, t] H fun v H' => BoxR H.next H' v (makeB k low high).1 (makeB k low high).2.1 (makeB k low high).2.2.1 (makeB k low high).2.2.2 ∧ Ext H H' := by
  refine is_spec_bxMake.go rfl ?_
  unfold c_spec_bxMake
  refine s_reg ?_
  simp only [o_cont, o_callT, callV_fn, o_pure, o_eff, o_callF, o_callN, o_guard, gk_tt, gk_ff, gk_tf, gk_ft, gk_u, t_op, t_alt, t_nil, o_nil, POp.ev, Opd.ev, EOp.ev, env0, gu, gv, setD, resV, List.set, List.map, List.map_nil, List.map_cons, Option.map_none, Option.map_some, Option.some.injEq, exists_eq_left', pickV, binV, convV, load1V, max2V, min2V, nilchkV, unV, boolEq, isNilV, fadV, extV, slenV, ne_eq, not_true_eq_false, if_false, if_true, ite_true, ite_false, Bool.false_eq_true, Bool.true_eq_false, beq_true, beq_false, beq_self_eq_true, Bool.not_true, Bool.not_false, reduceCtorEq, List.getElem?_toArray, List.getElem?_cons_zero, List.getElem?_cons_succ]
  have hx0 : Ext H (H.alloc [.int .i64 0, .slice none 0 0, .slice none 0 0]) := Ext.alloc _ _
  have hs1 := hs.keep (Keep.of_ext hx0 (Nat.le_refl _)) (Nat.le_refl _)
  have ht1 := ht.keep (Keep.of_ext hx0 (Nat.le_refl _)) (Nat.le_refl _)
  have hb0 : (H.alloc [.int .i64 0, .slice none 0 0, .slice none 0 0]).blk H.next = some [.int .i64 0, .slice none 0 0, .slice none 0 0] := alloc_new _ _
  have hn1 : (H.alloc [.int .i64 0, .slice none 0 0, .slice none 0 0]).next = H.next + 1 := rfl
  generalize H.alloc [.int .i64 0, .slice none 0 0, .slice none 0 0] = H1 at hx0 hs1 ht1 hb0 hn1 ⊢
  refine s_reg ?_
  simp only [o_cont, o_callT, callV_fn, o_pure, o_eff, o_callF, o_callN, o_guard, gk_tt, gk_ff, gk_tf, gk_ft, gk_u, t_op, t_alt, t_nil, o_nil, POp.ev, Opd.ev, EOp.ev, env0, gu, gv, setD, resV, List.set, List.map, List.map_nil, List.map_cons, Option.map_none, Option.map_some, Option.some.injEq, exists_eq_left', pickV, binV, convV, load1V, max2V, min2V, nilchkV, unV, boolEq, isNilV, fadV, extV, slenV, ne_eq, not_true_eq_false, if_false, if_true, ite_true, ite_false, Bool.false_eq_true, Bool.true_eq_false, beq_true, beq_false, beq_self_eq_true, Bool.not_true, Bool.not_false, reduceCtorEq, List.getElem?_toArray, List.getElem?_cons_zero, List.getElem?_cons_succ]
  refine (l1Own_ok lim _ _ _ (by omega) hs1 (by omega)).mono ?_
  rintro s1 H2 ⟨b, hb1, hb2, hvb, hx2⟩
  simp only [o_cont, o_callT, callV_fn, o_pure, o_eff, o_callF, o_callN, o_guard, gk_tt, gk_ff, gk_tf, gk_ft, gk_u, t_op, t_alt, t_nil, o_nil, POp.ev, Opd.ev, EOp.ev, env0, gu, gv, setD, resV, List.set, List.map, List.map_nil, List.map_cons, Option.map_none, Option.map_some, Option.some.injEq, exists_eq_left', pickV, binV, convV, load1V, max2V, min2V, nilchkV, unV, boolEq, isNilV, fadV, extV, slenV, ne_eq, not_true_eq_false, if_false, if_true, ite_true, ite_false, Bool.false_eq_true, Bool.true_eq_false, beq_true, beq_false, beq_self_eq_true, Bool.not_true, Bool.not_false, reduceCtorEq, List.getElem?_toArray, List.getElem?_cons_zero, List.getElem?_cons_succ]
  refine (l1Own_ok lim _ _ _ (by have := hx2.next; omega) (ht1.keep (Keep.of_ext hx2 (Nat.le_refl _)) (Nat.le_refl _)) (by omega)).mono ?_
  rintro t1 H3 ⟨c, hc1, hc2, hvc, hx3⟩
  have hvb3 := hvb.ext hx3
  have hn2 := hx2.next
  have hn3 := hx3.next
  simp only [o_cont, o_callT, callV_fn, o_pure, o_eff, o_callF, o_callN, o_guard, gk_tt, gk_ff, gk_tf, gk_ft, gk_u, t_op, t_alt, t_nil, o_nil, POp.ev, Opd.ev, EOp.ev, env0, gu, gv, setD, resV, List.set, List.map, List.map_nil, List.map_cons, Option.map_none, Option.map_some, Option.some.injEq, exists_eq_left', pickV, binV, convV, load1V, max2V, min2V, nilchkV, unV, boolEq, isNilV, fadV, extV, slenV, ne_eq, not_true_eq_false, if_false, if_true, ite_true, ite_false, Bool.false_eq_true, Bool.true_eq_false, beq_true, beq_false, beq_self_eq_true, Bool.not_true, Bool.not_false, reduceCtorEq, List.getElem?_toArray, List.getElem?_cons_zero, List.getElem?_cons_succ, fill3 (cells_int .i64 k) hvb.cellsV hvc.cellsV, store3_new (lim := lim) (H := H3) (by omega)]
  have hst : MkSt H (H3.alloc [.int .i64 k, s1, t1]) H.next H3.next b c k s1 t1 low high := by
    refine ⟨((hx0.trans hx2).trans hx3).trans (Ext.alloc _ _), by omega, by rw [alloc_next]; omega, by omega, ?_, alloc_new _ _, hvb3.ext (Ext.alloc _ _), hvc.ext (Ext.alloc _ _)⟩
    rw [alloc_old _ _ (by omega), hx3.blk _ (by omega), hx2.blk _ (by omega), hb0]
  generalize H3.alloc [.int .i64 k, s1, t1] = H4 at hst ⊢
  generalize H3.next = out at hst ⊢
  refine s_block ?_
  refine s_loop1 (fun n e' H' => ∃ (low' high' : List Int) (x6 x7 x8 : Value), MkSt H H' H.next out b c n s1 t1 low' high' ∧ normB k low high = normB n low' high' ∧ low'.length = low.length ∧ high'.length = low.length ∧ InR low' ∧ InR high' ∧ n ≤ 1000000 ∧
      e' = [.int .i64 k, s, t, .pointer (some ⟨H.next, 0, none⟩), .bool false, .pointer (some ⟨out, 0, none⟩), x6, x7, x8]) k
    ⟨low, high, _, _, _, hst, rfl, rfl, hlen, hr, hr2, hk, rfl⟩ ?_
  clear hst
  rintro n e' H' ⟨low', high', x6, x7, x8, hst, hnorm, hll, hlh, hil, hih, hnk, rfl⟩
  have hln := hst.ext.next
  refine s_test_I (decide (0 < n) && !oddB low' high') (Ext H') ?_ (fun H'' hx hg => ?_) (fun H'' hx hg => ?_)
  · have hgt : decide ((n : Int) > 0) = decide (0 < n) := by rw [Bool.eq_iff_iff]; simp
    simp only [o_cont, o_callT, callV_fn, o_pure, o_eff, o_callF, o_callN, o_guard, gk_tt, gk_ff, gk_tf, gk_ft, gk_u, t_op, t_alt, t_nil, o_nil, POp.ev, Opd.ev, EOp.ev, env0, gu, gv, setD, resV, List.set, List.map, List.map_nil, List.map_cons, Option.map_none, Option.map_some, Option.some.injEq, exists_eq_left', pickV, binV, convV, load1V, max2V, min2V, nilchkV, unV, boolEq, isNilV, fadV, extV, slenV, ne_eq, not_true_eq_false, if_false, if_true, ite_true, ite_false, Bool.false_eq_true, Bool.true_eq_false, beq_true, beq_false, beq_self_eq_true, Bool.not_true, Bool.not_false, reduceCtorEq, List.getElem?_toArray, List.getElem?_cons_zero, List.getElem?_cons_succ, cell_blk hst.bo, Nat.zero_add, hgt]
    cases h0 : decide (0 < n)
    · simp only [o_cont, o_callT, callV_fn, o_pure, o_eff, o_callF, o_callN, o_guard, gk_tt, gk_ff, gk_tf, gk_ft, gk_u, t_op, t_alt, t_nil, o_nil, POp.ev, Opd.ev, EOp.ev, env0, gu, gv, setD, resV, List.set, List.map, List.map_nil, List.map_cons, Option.map_none, Option.map_some, Option.some.injEq, exists_eq_left', pickV, binV, convV, load1V, max2V, min2V, nilchkV, unV, boolEq, isNilV, fadV, extV, slenV, ne_eq, not_true_eq_false, if_false, if_true, ite_true, ite_false, Bool.false_eq_true, Bool.true_eq_false, beq_true, beq_false, beq_self_eq_true, Bool.not_true, Bool.not_false, reduceCtorEq, List.getElem?_toArray, List.getElem?_cons_zero, List.getElem?_cons_succ]
      simp [Ext.refl]
    · simp only [o_cont, o_callT, callV_fn, o_pure, o_eff, o_callF, o_callN, o_guard, gk_tt, gk_ff, gk_tf, gk_ft, gk_u, t_op, t_alt, t_nil, o_nil, POp.ev, Opd.ev, EOp.ev, env0, gu, gv, setD, resV, List.set, List.map, List.map_nil, List.map_cons, Option.map_none, Option.map_some, Option.some.injEq, exists_eq_left', pickV, binV, convV, load1V, max2V, min2V, nilchkV, unV, boolEq, isNilV, fadV, extV, slenV, ne_eq, not_true_eq_false, if_false, if_true, ite_true, ite_false, Bool.false_eq_true, Bool.true_eq_false, beq_true, beq_false, beq_self_eq_true, Bool.not_true, Bool.not_false, reduceCtorEq, List.getElem?_toArray, List.getElem?_cons_zero, List.getElem?_cons_succ, load3 hst.bo]
      refine (bxEven_ok lim _ _ _ _ _ (by omega) hst.boxV (by omega) (by omega)).mono ?_
      rintro v H'' ⟨rfl, hx⟩
      simp only [o_cont, o_callT, callV_fn, o_pure, o_eff, o_callF, o_callN, o_guard, gk_tt, gk_ff, gk_tf, gk_ft, gk_u, t_op, t_alt, t_nil, o_nil, POp.ev, Opd.ev, EOp.ev, env0, gu, gv, setD, resV, List.set, List.map, List.map_nil, List.map_cons, Option.map_none, Option.map_some, Option.some.injEq, exists_eq_left', pickV, binV, convV, load1V, max2V, min2V, nilchkV, unV, boolEq, isNilV, fadV, extV, slenV, ne_eq, not_true_eq_false, if_false, if_true, ite_true, ite_false, Bool.false_eq_true, Bool.true_eq_false, beq_true, beq_false, beq_self_eq_true, Bool.not_true, Bool.not_false, reduceCtorEq, List.getElem?_toArray, List.getElem?_cons_zero, List.getElem?_cons_succ]
      simp [hx]
  · replace hst := hst.mono hx
    simp only [Bool.and_eq_true, decide_eq_true_eq, Bool.not_eq_true'] at hg
    obtain ⟨hn0, hodd⟩ := hg
    obtain ⟨m, rfl⟩ : ∃ m, n = m + 1 := ⟨n - 1, by omega⟩
    have hnorm' : normB k low high = normB m (low'.map hv) (high'.map hv) := by
      rw [hnorm]
      simp [normB, hodd]
    have hsub : IntKind.i64.wrap (((m + 1 : Nat) : Int) - 1) = (m : Int) := by rw [IntKind.wrap_i64]; omega
    refine s_skip1 ?_
    simp +decide only [p_seq_normal, p_seq_ret, p_seq_exit, p_block_normal, p_block_ret, p_block_exit, p_fin_ret, p_fin_normal, reduceIte, Nat.reduceEqDiff, resV, resOne, resL, gv, Option.some.injEq, exists_eq_left', Option.bind_some, Option.map_some, List.getD_cons_zero, List.getD_cons_succ]
    refine s_block1 ?_
    have hl' := hst.ge
    have hst2 := hst.exp (m : Int)
    have hput : ∀ (x y z : Value), storeH lim H'' 1 (.pointer (some ⟨out, 0, none⟩)) (.int .i64 m) = some (undef, H''.put out [.int .i64 m, s1, t1]) := by
      intro x y z
      rw [store_cell (cells_int .i64 m) (by omega) hst.bo (by simp)]
      rfl
    refine s_reg ?_
    simp only [o_cont, o_callT, callV_fn, o_pure, o_eff, o_callF, o_callN, o_guard, gk_tt, gk_ff, gk_tf, gk_ft, gk_u, t_op, t_alt, t_nil, o_nil, POp.ev, Opd.ev, EOp.ev, env0, gu, gv, setD, resV, List.set, List.map, List.map_nil, List.map_cons, Option.map_none, Option.map_some, Option.some.injEq, exists_eq_left', pickV, binV, convV, load1V, max2V, min2V, nilchkV, unV, boolEq, isNilV, fadV, extV, slenV, ne_eq, not_true_eq_false, if_false, if_true, ite_true, ite_false, Bool.false_eq_true, Bool.true_eq_false, beq_true, beq_false, beq_self_eq_true, Bool.not_true, Bool.not_false, reduceCtorEq, List.getElem?_toArray, List.getElem?_cons_zero, List.getElem?_cons_succ, cell_blk hst.bo, Nat.zero_add, hsub, hput undef undef undef]
    refine s_reg ?_
    simp only [o_cont, o_callT, callV_fn, o_pure, o_eff, o_callF, o_callN, o_guard, gk_tt, gk_ff, gk_tf, gk_ft, gk_u, t_op, t_alt, t_nil, o_nil, POp.ev, Opd.ev, EOp.ev, env0, gu, gv, setD, resV, List.set, List.map, List.map_nil, List.map_cons, Option.map_none, Option.map_some, Option.some.injEq, exists_eq_left', pickV, binV, convV, load1V, max2V, min2V, nilchkV, unV, boolEq, isNilV, fadV, extV, slenV, ne_eq, not_true_eq_false, if_false, if_true, ite_true, ite_false, Bool.false_eq_true, Bool.true_eq_false, beq_true, beq_false, beq_self_eq_true, Bool.not_true, Bool.not_false, reduceCtorEq, List.getElem?_toArray, List.getElem?_cons_zero, List.getElem?_cons_succ, cell_blk hst2.bo, hst2.vl.lenV, Nat.zero_add]
    refine s_block1 ?_
    refine s_loop1 (fun j e' H3 => ∃ (i : Nat) (x6 : Value), i + j = low.length ∧ MkSt H H3 H.next out b c m s1 t1 (partL hv low' i) (partL hv high' i) ∧
      e' = [.int .i64 k, s, t, .pointer (some ⟨H.next, 0, none⟩), .bool false, .pointer (some ⟨out, 0, none⟩), x6, .int .i64 low'.length, .int .i64 i]) low.length ⟨0, _, by omega, by rw [partL_zero, partL_zero]; exact hst2, rfl⟩ ?_
    clear hst hst2 hput
    rintro j e' H5 ⟨i, x6, hij, hst, rfl⟩
    have hp1 := partL_length hv low' i
    have hp2 := partL_length hv high' i
    refine s_test ?_
    simp only [o_cont, o_callT, callV_fn, o_pure, o_eff, o_callF, o_callN, o_guard, gk_tt, gk_ff, gk_tf, gk_ft, gk_u, t_op, t_alt, t_nil, o_nil, POp.ev, Opd.ev, EOp.ev, env0, gu, gv, setD, resV, List.set, List.map, List.map_nil, List.map_cons, Option.map_none, Option.map_some, Option.some.injEq, exists_eq_left', pickV, binV, convV, load1V, max2V, min2V, nilchkV, unV, boolEq, isNilV, fadV, extV, slenV, ne_eq, not_true_eq_false, if_false, if_true, ite_true, ite_false, Bool.false_eq_true, Bool.true_eq_false, beq_true, beq_false, beq_self_eq_true, Bool.not_true, Bool.not_false, reduceCtorEq, List.getElem?_toArray, List.getElem?_cons_zero, List.getElem?_cons_succ]
    refine Test.split (fun hlt => ?_) (fun hlt => ?_)
    · have hlt' : i < low'.length := by simpa using hlt
      have hlt2 : i < high'.length := by omega
      refine s_skip1 ?_
      simp +decide only [p_seq_normal, p_seq_ret, p_seq_exit, p_block_normal, p_block_ret, p_block_exit, p_fin_ret, p_fin_normal, reduceIte, Nat.reduceEqDiff, resV, resOne, resL, gv, Option.some.injEq, exists_eq_left', Option.bind_some, Option.map_some, List.getD_cons_zero, List.getD_cons_succ]
      refine s_block ?_
      refine s_reg ?_
      simp only [o_cont, o_callT, callV_fn, o_pure, o_eff, o_callF, o_callN, o_guard, gk_tt, gk_ff, gk_tf, gk_ft, gk_u, t_op, t_alt, t_nil, o_nil, POp.ev, Opd.ev, EOp.ev, env0, gu, gv, setD, resV, List.set, List.map, List.map_nil, List.map_cons, Option.map_none, Option.map_some, Option.some.injEq, exists_eq_left', pickV, binV, convV, load1V, max2V, min2V, nilchkV, unV, boolEq, isNilV, fadV, extV, slenV, ne_eq, not_true_eq_false, if_false, if_true, ite_true, ite_false, Bool.false_eq_true, Bool.true_eq_false, beq_true, beq_false, beq_self_eq_true, Bool.not_true, Bool.not_false, reduceCtorEq, List.getElem?_toArray, List.getElem?_cons_zero, List.getElem?_cons_succ]
      have e2 : ¬ ((2 : Int) = 0) := by decide
      have hc1 : H5.cell b i = some (.int .i64 low'[i]) := hst.vl.cell (by rw [List.getElem?_map, partL_get hv low' hlt']; rfl)
      obtain ⟨H6, hs6, hst6⟩ := hst.turnL (lim := lim) hl (hv low'[i]) (by omega : i < (partL hv low' i).length)
      rw [partL_set hv low' hlt'] at hst6
      refine s_reg ?_
      simp only [o_cont, o_callT, callV_fn, o_pure, o_eff, o_callF, o_callN, o_guard, gk_tt, gk_ff, gk_tf, gk_ft, gk_u, t_op, t_alt, t_nil, o_nil, POp.ev, Opd.ev, EOp.ev, env0, gu, gv, setD, resV, List.set, List.map, List.map_nil, List.map_cons, Option.map_none, Option.map_some, Option.some.injEq, exists_eq_left', pickV, binV, convV, load1V, max2V, min2V, nilchkV, unV, boolEq, isNilV, fadV, extV, slenV, ne_eq, not_true_eq_false, if_false, if_true, ite_true, ite_false, Bool.false_eq_true, Bool.true_eq_false, beq_true, beq_false, beq_self_eq_true, Bool.not_true, Bool.not_false, reduceCtorEq, List.getElem?_toArray, List.getElem?_cons_zero, List.getElem?_cons_succ, cell_blk hst.bo, Nat.zero_add, hst.vl.iad .i64 (show i < _ by omega), Nat.mul_one, hc1, if_neg e2, hv_wrap (hil.get hlt'), hs6]
      have hc2 : H6.cell c i = some (.int .i64 high'[i]) := hst6.vh.cell (by rw [List.getElem?_map, partL_get hv high' hlt2]; rfl)
      obtain ⟨H7, hs7, hst7⟩ := hst6.turnH (lim := lim) hl (hv high'[i]) (by omega : i < (partL hv high' i).length)
      rw [partL_set hv high' hlt2] at hst7
      refine s_reg1 ?_
      simp only [o_cont, o_callT, callV_fn, o_pure, o_eff, o_callF, o_callN, o_guard, gk_tt, gk_ff, gk_tf, gk_ft, gk_u, t_op, t_alt, t_nil, o_nil, POp.ev, Opd.ev, EOp.ev, env0, gu, gv, setD, resV, List.set, List.map, List.map_nil, List.map_cons, Option.map_none, Option.map_some, Option.some.injEq, exists_eq_left', pickV, binV, convV, load1V, max2V, min2V, nilchkV, unV, boolEq, isNilV, fadV, extV, slenV, ne_eq, not_true_eq_false, if_false, if_true, ite_true, ite_false, Bool.false_eq_true, Bool.true_eq_false, beq_true, beq_false, beq_self_eq_true, Bool.not_true, Bool.not_false, reduceCtorEq, List.getElem?_toArray, List.getElem?_cons_zero, List.getElem?_cons_succ, cell_blk hst6.bo, Nat.zero_add, hst6.vh.iad .i64 (show i < _ by omega), Nat.mul_one, hc2, if_neg e2, hv_wrap (hih.get hlt2), hs7]
      simp +decide only [p_seq_normal, p_seq_ret, p_seq_exit, p_block_normal, p_block_ret, p_block_exit, p_fin_ret, p_fin_normal, reduceIte, Nat.reduceEqDiff, resV, resOne, resL, gv, Option.some.injEq, exists_eq_left', Option.bind_some, Option.map_some, List.getD_cons_zero, List.getD_cons_succ]
      refine s_reg1 ?_
      simp only [o_cont, o_callT, callV_fn, o_pure, o_eff, o_callF, o_callN, o_guard, gk_tt, gk_ff, gk_tf, gk_ft, gk_u, t_op, t_alt, t_nil, o_nil, POp.ev, Opd.ev, EOp.ev, env0, gu, gv, setD, resV, List.set, List.map, List.map_nil, List.map_cons, Option.map_none, Option.map_some, Option.some.injEq, exists_eq_left', pickV, binV, convV, load1V, max2V, min2V, nilchkV, unV, boolEq, isNilV, fadV, extV, slenV, ne_eq, not_true_eq_false, if_false, if_true, ite_true, ite_false, Bool.false_eq_true, Bool.true_eq_false, beq_true, beq_false, beq_self_eq_true, Bool.not_true, Bool.not_false, reduceCtorEq, List.getElem?_toArray, List.getElem?_cons_zero, List.getElem?_cons_succ, add1 (i := i) (by omega)]
      simp +decide only [p_seq_normal, p_seq_ret, p_seq_exit, p_block_normal, p_block_ret, p_block_exit, p_fin_ret, p_fin_normal, reduceIte, Nat.reduceEqDiff, resV, resOne, resL, gv, Option.some.injEq, exists_eq_left', Option.bind_some, Option.map_some, List.getD_cons_zero, List.getD_cons_succ]
      exact Round.mk (j - 1) (by omega) ⟨i + 1, _, by omega, hst7, rfl⟩
    · have hge : low'.length ≤ i := by simp at hlt; omega
      rw [partL_all hv low' hge, partL_all hv high' (by omega)] at hst
      refine s_exit1 ?_
      simp +decide only [p_seq_normal, p_seq_ret, p_seq_exit, p_block_normal, p_block_ret, p_block_exit, p_fin_ret, p_fin_normal, reduceIte, Nat.reduceEqDiff, resV, resOne, resL, gv, Option.some.injEq, exists_eq_left', Option.bind_some, Option.map_some, List.getD_cons_zero, List.getD_cons_succ]
      exact Round.mk m (by omega) ⟨_, _, _, _, _, hst, hnorm', by simp [hll], by simp [hlh], hil.half, hih.half, by omega, rfl⟩
  · replace hst := hst.mono hx
    have hdone : normB n low' high' = (n, low', high') := by
      cases n with
      | zero => rfl
      | succ m =>
        have : oddB low' high' = true := by simpa using hg
        simp only [normB, this, if_true]
    rw [hdone] at hnorm
    refine s_exit1 ?_
    simp +decide only [p_seq_normal, p_seq_ret, p_seq_exit, p_block_normal, p_block_ret, p_block_exit, p_fin_ret, p_fin_normal, reduceIte, Nat.reduceEqDiff, resV, resOne, resL, gv, Option.some.injEq, exists_eq_left', Option.bind_some, Option.map_some, List.getD_cons_zero, List.getD_cons_succ]
    refine s_test_I (!goodB n low' high') (Ext H'') ?_ (fun H3 hx3 hg3 => ?_) (fun H3 hx3 hg3 => ?_)
    · simp only [o_cont, o_callT, callV_fn, o_pure, o_eff, o_callF, o_callN, o_guard, gk_tt, gk_ff, gk_tf, gk_ft, gk_u, t_op, t_alt, t_nil, o_nil, POp.ev, Opd.ev, EOp.ev, env0, gu, gv, setD, resV, List.set, List.map, List.map_nil, List.map_cons, Option.map_none, Option.map_some, Option.some.injEq, exists_eq_left', pickV, binV, convV, load1V, max2V, min2V, nilchkV, unV, boolEq, isNilV, fadV, extV, slenV, ne_eq, not_true_eq_false, if_false, if_true, ite_true, ite_false, Bool.false_eq_true, Bool.true_eq_false, beq_true, beq_false, beq_self_eq_true, Bool.not_true, Bool.not_false, reduceCtorEq, List.getElem?_toArray, List.getElem?_cons_zero, List.getElem?_cons_succ, load3 hst.bo]
      have := hst.ext.next
      refine (bxGood_ok lim _ _ _ _ _ (by omega) hst.boxV (by omega) (by omega)).mono ?_
      rintro v H'' ⟨rfl, hx⟩
      simp only [o_cont, o_callT, callV_fn, o_pure, o_eff, o_callF, o_callN, o_guard, gk_tt, gk_ff, gk_tf, gk_ft, gk_u, t_op, t_alt, t_nil, o_nil, POp.ev, Opd.ev, EOp.ev, env0, gu, gv, setD, resV, List.set, List.map, List.map_nil, List.map_cons, Option.map_none, Option.map_some, Option.some.injEq, exists_eq_left', pickV, binV, convV, load1V, max2V, min2V, nilchkV, unV, boolEq, isNilV, fadV, extV, slenV, ne_eq, not_true_eq_false, if_false, if_true, ite_true, ite_false, Bool.false_eq_true, Bool.true_eq_false, beq_true, beq_false, beq_self_eq_true, Bool.not_true, Bool.not_false, reduceCtorEq, List.getElem?_toArray, List.getElem?_cons_zero, List.getElem?_cons_succ]
      simp [hx]
    · replace hst := hst.mono hx3
      simp only [Bool.not_eq_true'] at hg3
      have hz : fillV [.int .i64 0, .slice none 0 0, .slice none 0 0] [] = some [.int .i64 0, .slice none 0 0, .slice none 0 0] := rfl
      refine s_reg ?_
      simp only [o_cont, o_callT, callV_fn, o_pure, o_eff, o_callF, o_callN, o_guard, gk_tt, gk_ff, gk_tf, gk_ft, gk_u, t_op, t_alt, t_nil, o_nil, POp.ev, Opd.ev, EOp.ev, env0, gu, gv, setD, resV, List.set, List.map, List.map_nil, List.map_cons, Option.map_none, Option.map_some, Option.some.injEq, exists_eq_left', pickV, binV, convV, load1V, max2V, min2V, nilchkV, unV, boolEq, isNilV, fadV, extV, slenV, ne_eq, not_true_eq_false, if_false, if_true, ite_true, ite_false, Bool.false_eq_true, Bool.true_eq_false, beq_true, beq_false, beq_self_eq_true, Bool.not_true, Bool.not_false, reduceCtorEq, List.getElem?_toArray, List.getElem?_cons_zero, List.getElem?_cons_succ, hz, store3 (lim := lim) (b := H.next) hl hst.br]
      refine s_ret1 ?_
      simp +decide only [p_seq_normal, p_seq_ret, p_seq_exit, p_block_normal, p_block_ret, p_block_exit, p_fin_ret, p_fin_normal, reduceIte, Nat.reduceEqDiff, resV, resOne, resL, gv, Option.some.injEq, exists_eq_left', Option.bind_some, Option.map_some, List.getD_cons_zero, List.getD_cons_succ, load3 (put_same _ _ _)]
      refine ⟨.inl ⟨?_, rfl⟩, Chg.ext hst.ext (Chg.put _ _ _) (Nat.le_refl _)⟩
      simp only [makeB, hnorm, hg3]
    · replace hst := hst.mono hx3
      simp only [Bool.not_eq_false'] at hg3
      refine s_skip1 ?_
      simp +decide only [p_seq_normal, p_seq_ret, p_seq_exit, p_block_normal, p_block_ret, p_block_exit, p_fin_ret, p_fin_normal, reduceIte, Nat.reduceEqDiff, resV, resOne, resL, gv, Option.some.injEq, exists_eq_left', Option.bind_some, Option.map_some, List.getD_cons_zero, List.getD_cons_succ]
      refine s_reg ?_
      simp only [o_cont, o_callT, callV_fn, o_pure, o_eff, o_callF, o_callN, o_guard, gk_tt, gk_ff, gk_tf, gk_ft, gk_u, t_op, t_alt, t_nil, o_nil, POp.ev, Opd.ev, EOp.ev, env0, gu, gv, setD, resV, List.set, List.map, List.map_nil, List.map_cons, Option.map_none, Option.map_some, Option.some.injEq, exists_eq_left', pickV, binV, convV, load1V, max2V, min2V, nilchkV, unV, boolEq, isNilV, fadV, extV, slenV, ne_eq, not_true_eq_false, if_false, if_true, ite_true, ite_false, Bool.false_eq_true, Bool.true_eq_false, beq_true, beq_false, beq_self_eq_true, Bool.not_true, Bool.not_false, reduceCtorEq, List.getElem?_toArray, List.getElem?_cons_zero, List.getElem?_cons_succ, load3 hst.bo, store3 (lim := lim) (b := H.next) hl hst.br]
      refine s_ret1 ?_
      simp +decide only [p_seq_normal, p_seq_ret, p_seq_exit, p_block_normal, p_block_ret, p_block_exit, p_fin_ret, p_fin_normal, reduceIte, Nat.reduceEqDiff, resV, resOne, resL, gv, Option.some.injEq, exists_eq_left', Option.bind_some, Option.map_some, List.getD_cons_zero, List.getD_cons_succ, load3 (put_same _ _ _)]
      have hc := Chg.put H.next H3 [.int .i64 n, s1, t1]
      refine ⟨.inr ⟨?_, s1, t1, b, c, ?_, hst.ge.2.2.1, hst.ge.2.2.2, hst.ne.2.2.2.2.2, ?_, ?_⟩, Chg.ext hst.ext hc (Nat.le_refl _)⟩
      · simp only [makeB, hnorm, hg3]
      · simp only [makeB, hnorm]
      · simp only [makeB, hnorm]
        exact hst.vl.chg hc (fun h => hst.ne.2.1 h.symm)
      · simp only [makeB, hnorm]
        exact hst.vh.chg hc (fun h => hst.ne.2.2.1 h.symm)
end Go.Proofs.Ytfnjjkljpegoeaa
