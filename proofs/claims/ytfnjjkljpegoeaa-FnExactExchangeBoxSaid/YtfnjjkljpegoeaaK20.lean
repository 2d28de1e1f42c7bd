/- FnExactExchangeBox: the specification's function and the implementation's; no condition beyond stated lengths. -/
import Derived.Test.YtfnjjkljpegoeaaK11
import Derived.Test.YtfnjjkljpegoeaaK3
namespace Go.Proofs.Ytfnjjkljpegoeaa
open Go.Ab
set_option linter.unusedSimpArgs false
set_option linter.unusedVariables false

theorem tfOrder_ne (lim : Nat) (s : Value) (l : List Int) (n : Nat) (H : AHeap) (hs : SlI H s l) (hn : l.length ≠ n) :
    ACalls Try.prog lim n_spec_tfOrder [s, .int .i64 n] H fun v H' => v = .bool false ∧ H' = H := by
  refine is_spec_tfOrder.go rfl ?_
  unfold c_spec_tfOrder
  have hb : ((l.length : Int) != (n : Int)) = true := by simp; omega
  refine s_reg ?_
  simp only [o_cont, o_callT, callV_fn, o_pure, o_eff, o_callF, o_callN, o_guard, gk_tt, gk_ff, gk_tf, gk_ft, gk_u, t_op, t_alt, t_nil, o_nil, POp.ev, Opd.ev, EOp.ev, env0, gu, gv, setD, resV, List.set, List.map, List.map_nil, List.map_cons, Option.map_none, Option.map_some, Option.some.injEq, exists_eq_left', pickV, binV, convV, load1V, max2V, min2V, nilchkV, unV, boolEq, isNilV, fadV, extV, slenV, ne_eq, not_true_eq_false, if_false, if_true, ite_true, ite_false, Bool.false_eq_true, Bool.true_eq_false, beq_true, beq_false, beq_self_eq_true, Bool.not_true, Bool.not_false, reduceCtorEq, List.getElem?_toArray, List.getElem?_cons_zero, List.getElem?_cons_succ]
  refine s_test ?_
  simp only [o_cont, o_callT, callV_fn, o_pure, o_eff, o_callF, o_callN, o_guard, gk_tt, gk_ff, gk_tf, gk_ft, gk_u, t_op, t_alt, t_nil, o_nil, POp.ev, Opd.ev, EOp.ev, env0, gu, gv, setD, resV, List.set, List.map, List.map_nil, List.map_cons, Option.map_none, Option.map_some, Option.some.injEq, exists_eq_left', pickV, binV, convV, load1V, max2V, min2V, nilchkV, unV, boolEq, isNilV, fadV, extV, slenV, ne_eq, not_true_eq_false, if_false, if_true, ite_true, ite_false, Bool.false_eq_true, Bool.true_eq_false, beq_true, beq_false, beq_self_eq_true, Bool.not_true, Bool.not_false, reduceCtorEq, List.getElem?_toArray, List.getElem?_cons_zero, List.getElem?_cons_succ, hs.lenV, hb]
  refine Test.true_ (s_reg ?_)
  simp only [o_cont, o_callT, callV_fn, o_pure, o_eff, o_callF, o_callN, o_guard, gk_tt, gk_ff, gk_tf, gk_ft, gk_u, t_op, t_alt, t_nil, o_nil, POp.ev, Opd.ev, EOp.ev, env0, gu, gv, setD, resV, List.set, List.map, List.map_nil, List.map_cons, Option.map_none, Option.map_some, Option.some.injEq, exists_eq_left', pickV, binV, convV, load1V, max2V, min2V, nilchkV, unV, boolEq, isNilV, fadV, extV, slenV, ne_eq, not_true_eq_false, if_false, if_true, ite_true, ite_false, Bool.false_eq_true, Bool.true_eq_false, beq_true, beq_false, beq_self_eq_true, Bool.not_true, Bool.not_false, reduceCtorEq, List.getElem?_toArray, List.getElem?_cons_zero, List.getElem?_cons_succ]
  refine s_ret1 ?_
  simp +decide only [p_seq_normal, p_seq_ret, p_seq_exit, p_block_normal, p_block_ret, p_block_exit, p_fin_ret, p_fin_normal, reduceIte, Nat.reduceEqDiff, resV, resOne, resL, gv, Option.some.injEq, exists_eq_left', Option.bind_some, Option.map_some, List.getD_cons_zero, List.getD_cons_succ]
def ordN (l : List Int) (n : Nat) : Bool := decide (l.length = n) && ordS l
theorem tfOrderN_ok (lim : Nat) (s : Value) (l : List Int) (n : Nat) (H : AHeap) (hs : SlI H s l) (hn : l.length ≤ 1000000000) :
    ACalls Try.prog lim n_spec_tfOrder [s, .int .i64 n] H fun v H' => v = .bool (ordN l n) ∧ H' = H := by
  unfold ordN
  by_cases h : l.length = n
  · subst h
    simpa using tfOrder_ok lim s l H hs hn
  · simpa [h] using tfOrder_ne lim s l n H hs h

/-- numbers laid where an order tells -/
def placeN (ord l : List Int) (i : Nat) : List Int := (List.range i).foldl (fun r j => r.set (ord.getD j 0).toNat (l.getD j 0)) (List.replicate ord.length 0)
theorem placeN_succ (ord l : List Int) (i : Nat) : placeN ord l (i + 1) = (placeN ord l i).set (ord.getD i 0).toNat (l.getD i 0) := by
  simp [placeN, List.range_succ]
theorem placeN_length (ord l : List Int) : ∀ i, (placeN ord l i).length = ord.length
  | 0 => by simp [placeN]
  | i + 1 => by rw [placeN_succ, List.length_set, placeN_length ord l i]
theorem placeN_in (ord l : List Int) (h : InR l) : ∀ i, i ≤ l.length → InR (placeN ord l i)
  | 0, _ => by
    intro x hx
    simp only [placeN, List.range_zero, List.foldl_nil, List.mem_replicate] at hx
    omega
  | i + 1, hi => by
    rw [placeN_succ]
    refine (placeN_in ord l h i (by omega)).set _ ?_
    have hl : i < l.length := by omega
    have := h.get hl
    simpa [hl] using this
theorem ordS_in {l : List Int} (h : ordS l = true) : 1 ≤ l.length ∧ l.length ≤ 3 ∧ ∀ x ∈ l, 0 ≤ x ∧ x ≤ (l.length : Int) - 1 := by
  simp only [ordS, Bool.and_eq_true, List.all_eq_true, decide_eq_true_eq] at h
  obtain ⟨⟨h1, _⟩, h2, h3⟩ := h
  exact ⟨by omega, by omega, h1⟩

def excB (k : Int) (ord low high : List Int) : Bool × Nat × List Int × List Int :=
  if goodB k low high && ordN ord low.length then makeB k.toNat (placeN ord low low.length) (placeN ord high low.length) else (false, 0, [], [])

/-- where the exchange stands -/
structure ExSt (H H1 : AHeap) (p r b c : Nat) (k : Int) (s t o s1 t1 : Value) (low high ord : List Int) (i : Nat) : Prop where
  e : BxE H H1 p r k s t low high
  o : SlI H1 o ord
  vl : VecI H1 b s1 (placeN ord low i)
  vh : VecI H1 c t1 (placeN ord high i)
  ge : H.next ≤ b ∧ H.next ≤ c ∧ b ≠ c ∧ p ≠ b ∧ p ≠ c ∧ r ≠ b ∧ r ≠ c
theorem vecI_mk (H : AHeap) (n : Nat) : VecI (H.alloc (List.replicate n (.int .i64 0))) H.next (.slice (some ⟨H.next, 0, some 0⟩) n n) (List.replicate n 0) := by
  have : Vec (H.alloc (List.replicate n (Value.int .i64 0))) H.next (.slice (some ⟨H.next, 0, some 0⟩) n n) n 1 (List.replicate n (Value.int .i64 0)) := Vec.lit (by simp)
  simpa [VecI] using this
theorem ExSt.mk' {H H1 : AHeap} {p r : Nat} {k : Int} {s t o : Value} {low high ord : List Int} (hE : BxE H H1 p r k s t low high) (ho : SlI H1 o ord) {b c : Nat} {s1 t1 : Value} {H2 : AHeap} (hx : Ext H1 H2)
    (h1 : VecI H2 b s1 (List.replicate ord.length 0)) (h2 : VecI H2 c t1 (List.replicate ord.length 0)) (hb : H1.next ≤ b) (hc : H1.next ≤ c) (hbc : b ≠ c) : ExSt H H2 p r b c k s t o s1 t1 low high ord 0 := by
  have hl := hE.lt
  have hn := hE.ext.next
  exact ⟨hE.mono hx, ho.keep (Keep.of_ext hx (Nat.le_refl _)) (Nat.le_refl _), by simpa [placeN] using h1, by simpa [placeN] using h2, by omega, by omega, hbc, by omega, by omega, by omega, by omega⟩

theorem sExchange_ok (lim : Nat) (v o : Value) (k : Int) (low high ord : List Int) (H : AHeap) (hl : lim ≤ H.next) (hv : BoxV H v k low high) (ho : SlI H o ord) (hn : low.length ≤ 100000000) (hn2 : high.length ≤ 100000000) (hn3 : ord.length ≤ 100000000) :
    ACalls Try.prog lim n_spec_ExchangeBox [v, o] H fun v H' => BoxR H.next H' v (excB k ord low high).1 (excB k ord low high).2.1 (excB k ord low high).2.2.1 (excB k ord low high).2.2.2 ∧ Ext H H' := by
  obtain ⟨s, t, rfl, hs, ht⟩ := hv
  refine is_spec_ExchangeBox.go rfl ?_
  unfold c_spec_ExchangeBox
  refine s_reg ?_
  simp only [o_cont, o_callT, callV_fn, o_pure, o_eff, o_callF, o_callN, o_guard, gk_tt, gk_ff, gk_tf, gk_ft, gk_u, t_op, t_alt, t_nil, o_nil, POp.ev, Opd.ev, EOp.ev, env0, gu, gv, setD, resV, List.set, List.map, List.map_nil, List.map_cons, Option.map_none, Option.map_some, Option.some.injEq, exists_eq_left', pickV, binV, convV, load1V, max2V, min2V, nilchkV, unV, boolEq, isNilV, fadV, extV, slenV, ne_eq, not_true_eq_false, if_false, if_true, ite_true, ite_false, Bool.false_eq_true, Bool.true_eq_false, beq_true, beq_false, beq_self_eq_true, Bool.not_true, Bool.not_false, reduceCtorEq, List.getElem?_toArray, List.getElem?_cons_zero, List.getElem?_cons_succ, boxH, cellsV]
  have hE := BxE.mk' (k := k) hs ht
  have hnx : (H.alloc [.int .i64 k, s, t]).next = H.next + 1 := rfl
  rw [hnx]
  generalize (H.alloc [.int .i64 k, s, t]).alloc [.int .i64 0, .slice none 0 0, .slice none 0 0] = H1 at hE ⊢
  generalize H.next + 1 = r at hE ⊢
  have hg0 := hE.ge
  have hl0 := hE.lt
  refine s_test_I (!(goodB k low high && ordN ord low.length)) (Ext H1) ?_ (fun H2 hx hg => ?_) (fun H2 hx hg => ?_)
  · simp only [o_cont, o_callT, callV_fn, o_pure, o_eff, o_callF, o_callN, o_guard, gk_tt, gk_ff, gk_tf, gk_ft, gk_u, t_op, t_alt, t_nil, o_nil, POp.ev, Opd.ev, EOp.ev, env0, gu, gv, setD, resV, List.set, List.map, List.map_nil, List.map_cons, Option.map_none, Option.map_some, Option.some.injEq, exists_eq_left', pickV, binV, convV, load1V, max2V, min2V, nilchkV, unV, boolEq, isNilV, fadV, extV, slenV, ne_eq, not_true_eq_false, if_false, if_true, ite_true, ite_false, Bool.false_eq_true, Bool.true_eq_false, beq_true, beq_false, beq_self_eq_true, Bool.not_true, Bool.not_false, reduceCtorEq, List.getElem?_toArray, List.getElem?_cons_zero, List.getElem?_cons_succ, load3 hE.bp]
    refine (bxGood_ok lim _ _ _ _ _ (by omega) hE.boxV (by omega) (by omega)).mono ?_
    rintro v H' ⟨rfl, hx⟩
    have hE' := hE.mono hx
    have ho' := ho.keep (Keep.of_ext (hE.ext.trans hx) (Nat.le_refl _)) (Nat.le_refl _)
    cases hgd : goodB k low high
    · simp only [o_cont, o_callT, callV_fn, o_pure, o_eff, o_callF, o_callN, o_guard, gk_tt, gk_ff, gk_tf, gk_ft, gk_u, t_op, t_alt, t_nil, o_nil, POp.ev, Opd.ev, EOp.ev, env0, gu, gv, setD, resV, List.set, List.map, List.map_nil, List.map_cons, Option.map_none, Option.map_some, Option.some.injEq, exists_eq_left', pickV, binV, convV, load1V, max2V, min2V, nilchkV, unV, boolEq, isNilV, fadV, extV, slenV, ne_eq, not_true_eq_false, if_false, if_true, ite_true, ite_false, Bool.false_eq_true, Bool.true_eq_false, beq_true, beq_false, beq_self_eq_true, Bool.not_true, Bool.not_false, reduceCtorEq, List.getElem?_toArray, List.getElem?_cons_zero, List.getElem?_cons_succ]
      simp [hx]
    · simp only [o_cont, o_callT, callV_fn, o_pure, o_eff, o_callF, o_callN, o_guard, gk_tt, gk_ff, gk_tf, gk_ft, gk_u, t_op, t_alt, t_nil, o_nil, POp.ev, Opd.ev, EOp.ev, env0, gu, gv, setD, resV, List.set, List.map, List.map_nil, List.map_cons, Option.map_none, Option.map_some, Option.some.injEq, exists_eq_left', pickV, binV, convV, load1V, max2V, min2V, nilchkV, unV, boolEq, isNilV, fadV, extV, slenV, ne_eq, not_true_eq_false, if_false, if_true, ite_true, ite_false, Bool.false_eq_true, Bool.true_eq_false, beq_true, beq_false, beq_self_eq_true, Bool.not_true, Bool.not_false, reduceCtorEq, List.getElem?_toArray, List.getElem?_cons_zero, List.getElem?_cons_succ, cell_blk hE'.bp, Nat.zero_add, hE'.sl.lenV]
      refine (tfOrderN_ok _ _ _ _ _ ho' (by omega)).eq ?_
      simp only [o_cont, o_callT, callV_fn, o_pure, o_eff, o_callF, o_callN, o_guard, gk_tt, gk_ff, gk_tf, gk_ft, gk_u, t_op, t_alt, t_nil, o_nil, POp.ev, Opd.ev, EOp.ev, env0, gu, gv, setD, resV, List.set, List.map, List.map_nil, List.map_cons, Option.map_none, Option.map_some, Option.some.injEq, exists_eq_left', pickV, binV, convV, load1V, max2V, min2V, nilchkV, unV, boolEq, isNilV, fadV, extV, slenV, ne_eq, not_true_eq_false, if_false, if_true, ite_true, ite_false, Bool.false_eq_true, Bool.true_eq_false, beq_true, beq_false, beq_self_eq_true, Bool.not_true, Bool.not_false, reduceCtorEq, List.getElem?_toArray, List.getElem?_cons_zero, List.getElem?_cons_succ]
      simp [hx]
  · replace hE := hE.mono hx
    simp only [Bool.not_eq_true'] at hg
    refine s_reg ?_
    simp only [o_cont, o_callT, callV_fn, o_pure, o_eff, o_callF, o_callN, o_guard, gk_tt, gk_ff, gk_tf, gk_ft, gk_u, t_op, t_alt, t_nil, o_nil, POp.ev, Opd.ev, EOp.ev, env0, gu, gv, setD, resV, List.set, List.map, List.map_nil, List.map_cons, Option.map_none, Option.map_some, Option.some.injEq, exists_eq_left', pickV, binV, convV, load1V, max2V, min2V, nilchkV, unV, boolEq, isNilV, fadV, extV, slenV, ne_eq, not_true_eq_false, if_false, if_true, ite_true, ite_false, Bool.false_eq_true, Bool.true_eq_false, beq_true, beq_false, beq_self_eq_true, Bool.not_true, Bool.not_false, reduceCtorEq, List.getElem?_toArray, List.getElem?_cons_zero, List.getElem?_cons_succ, zero_box, store3 (lim := lim) (b := r) (by omega) hE.br]
    refine s_ret1 ?_
    simp +decide only [p_seq_normal, p_seq_ret, p_seq_exit, p_block_normal, p_block_ret, p_block_exit, p_fin_ret, p_fin_normal, reduceIte, Nat.reduceEqDiff, resV, resOne, resL, gv, Option.some.injEq, exists_eq_left', Option.bind_some, Option.map_some, List.getD_cons_zero, List.getD_cons_succ, load3 (put_same _ _ _)]
    refine ⟨.inl ⟨?_, rfl⟩, Chg.ext hE.ext (Chg.put _ _ _) (by omega)⟩
    simp [excB, hg]
  · replace hE := hE.mono hx
    simp only [Bool.not_eq_false'] at hg
    have hgd : goodB k low high = true := by simp only [Bool.and_eq_true] at hg; exact hg.1
    have hod : ordN ord low.length = true := by simp only [Bool.and_eq_true] at hg; exact hg.2
    simp only [ordN, Bool.and_eq_true, decide_eq_true_eq] at hod
    obtain ⟨hlen, hos⟩ := hod
    obtain ⟨q1, q2, q3⟩ := ordS_in hos
    obtain ⟨g1, g2, g3, g4, g5, g6, g7⟩ := goodB_small hgd
    obtain ⟨kn, rfl⟩ : ∃ kn : Nat, k = kn := ⟨k.toNat, by omega⟩
    have ho1 := ho.keep (Keep.of_ext hE.ext (Nat.le_refl _)) (Nat.le_refl _)
    have hg1 := hE.lt
    refine s_skip1 ?_
    simp +decide only [p_seq_normal, p_seq_ret, p_seq_exit, p_block_normal, p_block_ret, p_block_exit, p_fin_ret, p_fin_normal, reduceIte, Nat.reduceEqDiff, resV, resOne, resL, gv, Option.some.injEq, exists_eq_left', Option.bind_some, Option.map_some, List.getD_cons_zero, List.getD_cons_succ]
    refine s_regT_cut (fun e' H' => ∃ (b c : Nat) (s1 t1 x7 x8 x9 x10 x11 : Value), ExSt H H' H.next r b c kn s t o s1 t1 low high ord 0 ∧ e' = [.agg #[.int .i64 kn, s, t], o, .pointer (some ⟨H.next, 0, none⟩), .pointer (some ⟨r, 0, none⟩), .bool false, s1, t1, x7, x8, x9, x10, x11]) ?_ ?_
    · have hz := mkslice_int (H := H2) 8 ord.length ord.length [.int .i64 0] (Nat.le_refl _) (by omega) (by omega)
      have hz2 := mkslice_int (H := H2.alloc (zerosL ord.length [.int .i64 0])) 8 ord.length ord.length [.int .i64 0] (Nat.le_refl _) (by omega) (by omega)
      simp only [o_cont, o_callT, callV_fn, o_pure, o_eff, o_callF, o_callN, o_guard, gk_tt, gk_ff, gk_tf, gk_ft, gk_u, t_op, t_alt, t_nil, o_nil, POp.ev, Opd.ev, EOp.ev, env0, gu, gv, setD, resV, List.set, List.map, List.map_nil, List.map_cons, Option.map_none, Option.map_some, Option.some.injEq, exists_eq_left', pickV, binV, convV, load1V, max2V, min2V, nilchkV, unV, boolEq, isNilV, fadV, extV, slenV, ne_eq, not_true_eq_false, if_false, if_true, ite_true, ite_false, Bool.false_eq_true, Bool.true_eq_false, beq_true, beq_false, beq_self_eq_true, Bool.not_true, Bool.not_false, reduceCtorEq, List.getElem?_toArray, List.getElem?_cons_zero, List.getElem?_cons_succ, ho1.lenV, hz, hz2]
      rw [zerosL_one]
      have k1 := vecI_mk H2 ord.length
      have k2 := vecI_mk (H2.alloc (List.replicate ord.length (.int .i64 0))) ord.length
      have kx := Ext.alloc H2 (List.replicate ord.length (.int .i64 0))
      have ky := Ext.alloc (H2.alloc (List.replicate ord.length (.int .i64 0))) (List.replicate ord.length (.int .i64 0))
      have kn1 : (H2.alloc (List.replicate ord.length (.int .i64 0))).next = H2.next + 1 := rfl
      refine ⟨⟨?_, ?_⟩, ?_⟩
      · exact ⟨_, _, _, _, _, _, _, _, _, ExSt.mk' hE ho1 (kx.trans ky) (k1.ext ky) k2 (Nat.le_refl _) (by omega) (by omega), rfl⟩
      · exact ⟨_, _, _, _, _, _, _, _, _, ExSt.mk' hE ho1 (kx.trans ky) (k1.ext ky) k2 (Nat.le_refl _) (by omega) (by omega), rfl⟩
      · exact ⟨_, _, _, _, _, _, _, _, _, ExSt.mk' hE ho1 (kx.trans ky) k2 (k1.ext ky) (by omega) (Nat.le_refl _) (by omega), rfl⟩
    rintro e' H3 ⟨b, c, s1, t1, x7, x8, x9, x10, x11, hst, rfl⟩
    refine s_assoc (s_reg ?_)
    simp only [o_cont, o_callT, callV_fn, o_pure, o_eff, o_callF, o_callN, o_guard, gk_tt, gk_ff, gk_tf, gk_ft, gk_u, t_op, t_alt, t_nil, o_nil, POp.ev, Opd.ev, EOp.ev, env0, gu, gv, setD, resV, List.set, List.map, List.map_nil, List.map_cons, Option.map_none, Option.map_some, Option.some.injEq, exists_eq_left', pickV, binV, convV, load1V, max2V, min2V, nilchkV, unV, boolEq, isNilV, fadV, extV, slenV, ne_eq, not_true_eq_false, if_false, if_true, ite_true, ite_false, Bool.false_eq_true, Bool.true_eq_false, beq_true, beq_false, beq_self_eq_true, Bool.not_true, Bool.not_false, reduceCtorEq, List.getElem?_toArray, List.getElem?_cons_zero, List.getElem?_cons_succ, ho1.lenV]
    refine s_block ?_
    refine s_loop1 (fun j e' H' => ∃ (i : Nat) (x7 x8 : Value), i + j = ord.length ∧ ExSt H H' H.next r b c kn s t o s1 t1 low high ord i ∧ e' = [.agg #[.int .i64 kn, s, t], o, .pointer (some ⟨H.next, 0, none⟩), .pointer (some ⟨r, 0, none⟩), .bool false, s1, t1, x7, x8, o, .int .i64 ord.length, .int .i64 i]) ord.length ⟨0, _, _, by omega, hst, rfl⟩ ?_
    clear hst
    rintro j e' H' ⟨i, x7, x8, hij, hst, rfl⟩
    obtain ⟨hE2, ho2, hvl, hvh, hge⟩ := id hst
    obtain ⟨hbl, hcl, hbc, hpb, hpc, hrb, hrc⟩ := hge
    refine s_test ?_
    simp only [o_cont, o_callT, callV_fn, o_pure, o_eff, o_callF, o_callN, o_guard, gk_tt, gk_ff, gk_tf, gk_ft, gk_u, t_op, t_alt, t_nil, o_nil, POp.ev, Opd.ev, EOp.ev, env0, gu, gv, setD, resV, List.set, List.map, List.map_nil, List.map_cons, Option.map_none, Option.map_some, Option.some.injEq, exists_eq_left', pickV, binV, convV, load1V, max2V, min2V, nilchkV, unV, boolEq, isNilV, fadV, extV, slenV, ne_eq, not_true_eq_false, if_false, if_true, ite_true, ite_false, Bool.false_eq_true, Bool.true_eq_false, beq_true, beq_false, beq_self_eq_true, Bool.not_true, Bool.not_false, reduceCtorEq, List.getElem?_toArray, List.getElem?_cons_zero, List.getElem?_cons_succ]
    refine Test.split (fun hlt => ?_) (fun hlt => ?_)
    · have hlt' : i < ord.length := by simpa using hlt
      have hil : i < low.length := by omega
      have hih : i < high.length := by omega
      have hq := q3 _ (List.getElem_mem hlt')
      obtain ⟨d, hd⟩ : ∃ d : Nat, ord[i] = (d : Int) := ⟨ord[i].toNat, by omega⟩
      have hdl : d < (placeN ord low i).length := by rw [placeN_length]; omega
      have hdh : d < (placeN ord high i).length := by rw [placeN_length]; omega
      obtain ⟨ba, oa, u1, u2, u3⟩ := SlI.get ho2 hlt'
      rw [hd] at u3
      obtain ⟨bb, o1, h1, h2, h3⟩ := SlI.get hE2.sl hil
      obtain ⟨cs5, hs5, hv5⟩ := hvl.put1 (lim := lim) (i := d) (by omega) (cells_int .i64 low[i]) hdl
      have ho5 := ho.keep (Keep.of_ext (Chg.ext hE2.ext (Chg.put b H' cs5) (by omega)) (Nat.le_refl _)) (Nat.le_refl _)
      refine s_skip1 ?_
      simp +decide only [p_seq_normal, p_seq_ret, p_seq_exit, p_block_normal, p_block_ret, p_block_exit, p_fin_ret, p_fin_normal, reduceIte, Nat.reduceEqDiff, resV, resOne, resL, gv, Option.some.injEq, exists_eq_left', Option.bind_some, Option.map_some, List.getD_cons_zero, List.getD_cons_succ]
      refine s_block ?_
      refine s_reg ?_
      simp only [o_cont, o_callT, callV_fn, o_pure, o_eff, o_callF, o_callN, o_guard, gk_tt, gk_ff, gk_tf, gk_ft, gk_u, t_op, t_alt, t_nil, o_nil, POp.ev, Opd.ev, EOp.ev, env0, gu, gv, setD, resV, List.set, List.map, List.map_nil, List.map_cons, Option.map_none, Option.map_some, Option.some.injEq, exists_eq_left', pickV, binV, convV, load1V, max2V, min2V, nilchkV, unV, boolEq, isNilV, fadV, extV, slenV, ne_eq, not_true_eq_false, if_false, if_true, ite_true, ite_false, Bool.false_eq_true, Bool.true_eq_false, beq_true, beq_false, beq_self_eq_true, Bool.not_true, Bool.not_false, reduceCtorEq, List.getElem?_toArray, List.getElem?_cons_zero, List.getElem?_cons_succ, u1, u3]
      refine s_reg ?_
      simp only [o_cont, o_callT, callV_fn, o_pure, o_eff, o_callF, o_callN, o_guard, gk_tt, gk_ff, gk_tf, gk_ft, gk_u, t_op, t_alt, t_nil, o_nil, POp.ev, Opd.ev, EOp.ev, env0, gu, gv, setD, resV, List.set, List.map, List.map_nil, List.map_cons, Option.map_none, Option.map_some, Option.some.injEq, exists_eq_left', pickV, binV, convV, load1V, max2V, min2V, nilchkV, unV, boolEq, isNilV, fadV, extV, slenV, ne_eq, not_true_eq_false, if_false, if_true, ite_true, ite_false, Bool.false_eq_true, Bool.true_eq_false, beq_true, beq_false, beq_self_eq_true, Bool.not_true, Bool.not_false, reduceCtorEq, List.getElem?_toArray, List.getElem?_cons_zero, List.getElem?_cons_succ, cell_blk hst.e.bp, Nat.zero_add, h1, h3, hvl.iad .i64 hdl, Nat.mul_one, hs5]
      replace hvh := hvh.chg (Chg.put b H' cs5) (Ne.symm hbc)
      replace hE2 := hE2.chg hs ht (Chg.put b H' cs5) (by omega) hpb hrb
      generalize H'.put b cs5 = H5 at hv5 hvh hE2 ho5 ⊢
      obtain ⟨bb', o', h1', h2', h3'⟩ := SlI.get hE2.sh hih
      obtain ⟨cs6, hs6, hv6⟩ := hvh.put1 (lim := lim) (i := d) (by omega) (cells_int .i64 high[i]) hdh
      have ho6 := ho.keep (Keep.of_ext (Chg.ext hE2.ext (Chg.put c H5 cs6) (by omega)) (Nat.le_refl _)) (Nat.le_refl _)
      refine s_reg1 ?_
      simp only [o_cont, o_callT, callV_fn, o_pure, o_eff, o_callF, o_callN, o_guard, gk_tt, gk_ff, gk_tf, gk_ft, gk_u, t_op, t_alt, t_nil, o_nil, POp.ev, Opd.ev, EOp.ev, env0, gu, gv, setD, resV, List.set, List.map, List.map_nil, List.map_cons, Option.map_none, Option.map_some, Option.some.injEq, exists_eq_left', pickV, binV, convV, load1V, max2V, min2V, nilchkV, unV, boolEq, isNilV, fadV, extV, slenV, ne_eq, not_true_eq_false, if_false, if_true, ite_true, ite_false, Bool.false_eq_true, Bool.true_eq_false, beq_true, beq_false, beq_self_eq_true, Bool.not_true, Bool.not_false, reduceCtorEq, List.getElem?_toArray, List.getElem?_cons_zero, List.getElem?_cons_succ, cell_blk hE2.bp, Nat.zero_add, h1', h3', hvh.iad .i64 hdh, Nat.mul_one, hs6]
      replace hv5 := hv5.chg (Chg.put c H5 cs6) hbc
      replace hE2 := hE2.chg hs ht (Chg.put c H5 cs6) (by omega) hpc hrc
      generalize H5.put c cs6 = H6 at hv5 hv6 hE2 ho6 ⊢
      simp +decide only [p_seq_normal, p_seq_ret, p_seq_exit, p_block_normal, p_block_ret, p_block_exit, p_fin_ret, p_fin_normal, reduceIte, Nat.reduceEqDiff, resV, resOne, resL, gv, Option.some.injEq, exists_eq_left', Option.bind_some, Option.map_some, List.getD_cons_zero, List.getD_cons_succ]
      refine s_reg1 ?_
      simp only [o_cont, o_callT, callV_fn, o_pure, o_eff, o_callF, o_callN, o_guard, gk_tt, gk_ff, gk_tf, gk_ft, gk_u, t_op, t_alt, t_nil, o_nil, POp.ev, Opd.ev, EOp.ev, env0, gu, gv, setD, resV, List.set, List.map, List.map_nil, List.map_cons, Option.map_none, Option.map_some, Option.some.injEq, exists_eq_left', pickV, binV, convV, load1V, max2V, min2V, nilchkV, unV, boolEq, isNilV, fadV, extV, slenV, ne_eq, not_true_eq_false, if_false, if_true, ite_true, ite_false, Bool.false_eq_true, Bool.true_eq_false, beq_true, beq_false, beq_self_eq_true, Bool.not_true, Bool.not_false, reduceCtorEq, List.getElem?_toArray, List.getElem?_cons_zero, List.getElem?_cons_succ, add1 (i := i) (by omega)]
      simp +decide only [p_seq_normal, p_seq_ret, p_seq_exit, p_block_normal, p_block_ret, p_block_exit, p_fin_ret, p_fin_normal, reduceIte, Nat.reduceEqDiff, resV, resOne, resL, gv, Option.some.injEq, exists_eq_left', Option.bind_some, Option.map_some, List.getD_cons_zero, List.getD_cons_succ]
      refine Round.mk (j - 1) (by omega) ⟨i + 1, _, _, by omega, ⟨hE2, ho6, ?_, ?_, hbl, hcl, hbc, hpb, hpc, hrb, hrc⟩, rfl⟩
      · rw [placeN_succ]
        unfold VecI
        rw [List.length_set, List.map_set]
        simpa [hlt', hd, hil] using hv5
      · rw [placeN_succ]
        unfold VecI
        rw [List.length_set, List.map_set]
        simpa [hlt', hd, hih] using hv6
    · have hge : i = low.length := by simp at hlt; omega
      subst hge
      have hl6 := hE2.lt
      have hn6 := hE2.ext.next
      refine s_exit1 ?_
      simp +decide only [p_seq_normal, p_seq_ret, p_seq_exit, p_block_normal, p_block_ret, p_block_exit, p_fin_ret, p_fin_normal, reduceIte, Nat.reduceEqDiff, resV, resOne, resL, gv, Option.some.injEq, exists_eq_left', Option.bind_some, Option.map_some, List.getD_cons_zero, List.getD_cons_succ]
      refine s_reg ?_
      simp only [o_cont, o_callT, callV_fn, o_pure, o_eff, o_callF, o_callN, o_guard, gk_tt, gk_ff, gk_tf, gk_ft, gk_u, t_op, t_alt, t_nil, o_nil, POp.ev, Opd.ev, EOp.ev, env0, gu, gv, setD, resV, List.set, List.map, List.map_nil, List.map_cons, Option.map_none, Option.map_some, Option.some.injEq, exists_eq_left', pickV, binV, convV, load1V, max2V, min2V, nilchkV, unV, boolEq, isNilV, fadV, extV, slenV, ne_eq, not_true_eq_false, if_false, if_true, ite_true, ite_false, Bool.false_eq_true, Bool.true_eq_false, beq_true, beq_false, beq_self_eq_true, Bool.not_true, Bool.not_false, reduceCtorEq, List.getElem?_toArray, List.getElem?_cons_zero, List.getElem?_cons_succ, cell_blk hE2.bp, Nat.zero_add]
      refine (bxMake_ok lim kn s1 t1 _ _ H' (by omega) hvl.sl hvh.sl (by rw [placeN_length]; omega) (by rw [placeN_length, placeN_length]) (by omega) (placeN_in _ _ (InR.of_small g6) _ (by omega)) (placeN_in _ _ (InR.of_small g7) _ (by omega))).mono ?_
      rintro v H7 ⟨hR, hx7⟩
      replace hE2 := hE2.mono hx7
      obtain ⟨x, y, z, rfl⟩ := hR.form
      simp only [o_cont, o_callT, callV_fn, o_pure, o_eff, o_callF, o_callN, o_guard, gk_tt, gk_ff, gk_tf, gk_ft, gk_u, t_op, t_alt, t_nil, o_nil, POp.ev, Opd.ev, EOp.ev, env0, gu, gv, setD, resV, List.set, List.map, List.map_nil, List.map_cons, Option.map_none, Option.map_some, Option.some.injEq, exists_eq_left', pickV, binV, convV, load1V, max2V, min2V, nilchkV, unV, boolEq, isNilV, fadV, extV, slenV, ne_eq, not_true_eq_false, if_false, if_true, ite_true, ite_false, Bool.false_eq_true, Bool.true_eq_false, beq_true, beq_false, beq_self_eq_true, Bool.not_true, Bool.not_false, reduceCtorEq, List.getElem?_toArray, List.getElem?_cons_zero, List.getElem?_cons_succ, store3 (lim := lim) (b := r) (by omega) hE2.br]
      refine s_ret1 ?_
      simp +decide only [p_seq_normal, p_seq_ret, p_seq_exit, p_block_normal, p_block_ret, p_block_exit, p_fin_ret, p_fin_normal, reduceIte, Nat.reduceEqDiff, resV, resOne, resL, gv, Option.some.injEq, exists_eq_left', Option.bind_some, Option.map_some, List.getD_cons_zero, List.getD_cons_succ, load3 (put_same _ _ _)]
      refine ⟨?_, Chg.ext hE2.ext (Chg.put _ _ _) (by omega)⟩
      have hmir : excB kn ord low high = makeB kn (placeN ord low low.length) (placeN ord high low.length) := by
        unfold excB
        rw [if_pos hg]
        simp
      rw [hmir]
      exact (hR.put (by omega) _).low (by omega)

theorem iExchange_ok (lim : Nat) (v o : Value) (k : Int) (low high ord : List Int) (H : AHeap) (hl : lim ≤ H.next) (hv : BoxV H v k low high) (ho : SlI H o ord) (hn : low.length ≤ 100000000) (hn2 : high.length ≤ 100000000) (hn3 : ord.length ≤ 100000000) :
    ACalls Try.prog lim n_impl_ExchangeBox [v, o] H fun v H' => BoxR H.next H' v (excB k ord low high).1 (excB k ord low high).2.1 (excB k ord low high).2.2.1 (excB k ord low high).2.2.2 ∧ Ext H H' := by
  obtain ⟨s, t, rfl, hs, ht⟩ := hv
  refine is_impl_ExchangeBox.go rfl ?_
  unfold c_impl_ExchangeBox
  refine s_reg ?_
  simp only [o_cont, o_callT, callV_fn, o_pure, o_eff, o_callF, o_callN, o_guard, gk_tt, gk_ff, gk_tf, gk_ft, gk_u, t_op, t_alt, t_nil, o_nil, POp.ev, Opd.ev, EOp.ev, env0, gu, gv, setD, resV, List.set, List.map, List.map_nil, List.map_cons, Option.map_none, Option.map_some, Option.some.injEq, exists_eq_left', pickV, binV, convV, load1V, max2V, min2V, nilchkV, unV, boolEq, isNilV, fadV, extV, slenV, ne_eq, not_true_eq_false, if_false, if_true, ite_true, ite_false, Bool.false_eq_true, Bool.true_eq_false, beq_true, beq_false, beq_self_eq_true, Bool.not_true, Bool.not_false, reduceCtorEq, List.getElem?_toArray, List.getElem?_cons_zero, List.getElem?_cons_succ, boxH, cellsV]
  have hE := BxE.mk' (k := k) hs ht
  have hnx : (H.alloc [.int .i64 k, s, t]).next = H.next + 1 := rfl
  rw [hnx]
  generalize (H.alloc [.int .i64 k, s, t]).alloc [.int .i64 0, .slice none 0 0, .slice none 0 0] = H1 at hE ⊢
  generalize H.next + 1 = r at hE ⊢
  have hg0 := hE.ge
  have hl0 := hE.lt
  refine s_test_same (!(goodB k low high && ordN ord low.length)) ?_ (fun hg => ?_) (fun hg => ?_)
  · simp only [o_cont, o_callT, callV_fn, o_pure, o_eff, o_callF, o_callN, o_guard, gk_tt, gk_ff, gk_tf, gk_ft, gk_u, t_op, t_alt, t_nil, o_nil, POp.ev, Opd.ev, EOp.ev, env0, gu, gv, setD, resV, List.set, List.map, List.map_nil, List.map_cons, Option.map_none, Option.map_some, Option.some.injEq, exists_eq_left', pickV, binV, convV, load1V, max2V, min2V, nilchkV, unV, boolEq, isNilV, fadV, extV, slenV, ne_eq, not_true_eq_false, if_false, if_true, ite_true, ite_false, Bool.false_eq_true, Bool.true_eq_false, beq_true, beq_false, beq_self_eq_true, Bool.not_true, Bool.not_false, reduceCtorEq, List.getElem?_toArray, List.getElem?_cons_zero, List.getElem?_cons_succ]
    refine (isBox_ok _ hE.boxP (by omega) (by omega)).eq ?_
    have ho' := ho.keep (Keep.of_ext hE.ext (Nat.le_refl _)) (Nat.le_refl _)
    cases hgd : goodB k low high
    · simp only [o_cont, o_callT, callV_fn, o_pure, o_eff, o_callF, o_callN, o_guard, gk_tt, gk_ff, gk_tf, gk_ft, gk_u, t_op, t_alt, t_nil, o_nil, POp.ev, Opd.ev, EOp.ev, env0, gu, gv, setD, resV, List.set, List.map, List.map_nil, List.map_cons, Option.map_none, Option.map_some, Option.some.injEq, exists_eq_left', pickV, binV, convV, load1V, max2V, min2V, nilchkV, unV, boolEq, isNilV, fadV, extV, slenV, ne_eq, not_true_eq_false, if_false, if_true, ite_true, ite_false, Bool.false_eq_true, Bool.true_eq_false, beq_true, beq_false, beq_self_eq_true, Bool.not_true, Bool.not_false, reduceCtorEq, List.getElem?_toArray, List.getElem?_cons_zero, List.getElem?_cons_succ]
      simp
    · simp only [o_cont, o_callT, callV_fn, o_pure, o_eff, o_callF, o_callN, o_guard, gk_tt, gk_ff, gk_tf, gk_ft, gk_u, t_op, t_alt, t_nil, o_nil, POp.ev, Opd.ev, EOp.ev, env0, gu, gv, setD, resV, List.set, List.map, List.map_nil, List.map_cons, Option.map_none, Option.map_some, Option.some.injEq, exists_eq_left', pickV, binV, convV, load1V, max2V, min2V, nilchkV, unV, boolEq, isNilV, fadV, extV, slenV, ne_eq, not_true_eq_false, if_false, if_true, ite_true, ite_false, Bool.false_eq_true, Bool.true_eq_false, beq_true, beq_false, beq_self_eq_true, Bool.not_true, Bool.not_false, reduceCtorEq, List.getElem?_toArray, List.getElem?_cons_zero, List.getElem?_cons_succ]
      refine (isOrder_ok _ _ _ _ ho' (by omega)).eq ?_
      rw [ord_eq]
      unfold ordN
      cases hos : ordS ord
      · simp only [o_cont, o_callT, callV_fn, o_pure, o_eff, o_callF, o_callN, o_guard, gk_tt, gk_ff, gk_tf, gk_ft, gk_u, t_op, t_alt, t_nil, o_nil, POp.ev, Opd.ev, EOp.ev, env0, gu, gv, setD, resV, List.set, List.map, List.map_nil, List.map_cons, Option.map_none, Option.map_some, Option.some.injEq, exists_eq_left', pickV, binV, convV, load1V, max2V, min2V, nilchkV, unV, boolEq, isNilV, fadV, extV, slenV, ne_eq, not_true_eq_false, if_false, if_true, ite_true, ite_false, Bool.false_eq_true, Bool.true_eq_false, beq_true, beq_false, beq_self_eq_true, Bool.not_true, Bool.not_false, reduceCtorEq, List.getElem?_toArray, List.getElem?_cons_zero, List.getElem?_cons_succ]
        simp
      · simp only [o_cont, o_callT, callV_fn, o_pure, o_eff, o_callF, o_callN, o_guard, gk_tt, gk_ff, gk_tf, gk_ft, gk_u, t_op, t_alt, t_nil, o_nil, POp.ev, Opd.ev, EOp.ev, env0, gu, gv, setD, resV, List.set, List.map, List.map_nil, List.map_cons, Option.map_none, Option.map_some, Option.some.injEq, exists_eq_left', pickV, binV, convV, load1V, max2V, min2V, nilchkV, unV, boolEq, isNilV, fadV, extV, slenV, ne_eq, not_true_eq_false, if_false, if_true, ite_true, ite_false, Bool.false_eq_true, Bool.true_eq_false, beq_true, beq_false, beq_self_eq_true, Bool.not_true, Bool.not_false, reduceCtorEq, List.getElem?_toArray, List.getElem?_cons_zero, List.getElem?_cons_succ, cell_blk hE.bp, Nat.zero_add, hE.sl.lenV, ho'.lenV]
        have hd : ((ord.length : Int) != (low.length : Int)) = !decide (ord.length = low.length) := by
          by_cases h : ord.length = low.length
          · simp [h]
          · have : ((ord.length : Int) != (low.length : Int)) = true := by simp; omega
            rw [this]
            simp [h]
        simp [hd]
  · simp only [Bool.not_eq_true'] at hg
    refine s_reg ?_
    simp only [o_cont, o_callT, callV_fn, o_pure, o_eff, o_callF, o_callN, o_guard, gk_tt, gk_ff, gk_tf, gk_ft, gk_u, t_op, t_alt, t_nil, o_nil, POp.ev, Opd.ev, EOp.ev, env0, gu, gv, setD, resV, List.set, List.map, List.map_nil, List.map_cons, Option.map_none, Option.map_some, Option.some.injEq, exists_eq_left', pickV, binV, convV, load1V, max2V, min2V, nilchkV, unV, boolEq, isNilV, fadV, extV, slenV, ne_eq, not_true_eq_false, if_false, if_true, ite_true, ite_false, Bool.false_eq_true, Bool.true_eq_false, beq_true, beq_false, beq_self_eq_true, Bool.not_true, Bool.not_false, reduceCtorEq, List.getElem?_toArray, List.getElem?_cons_zero, List.getElem?_cons_succ, zero_box, store3 (lim := lim) (b := r) (by omega) hE.br]
    refine s_ret1 ?_
    simp +decide only [p_seq_normal, p_seq_ret, p_seq_exit, p_block_normal, p_block_ret, p_block_exit, p_fin_ret, p_fin_normal, reduceIte, Nat.reduceEqDiff, resV, resOne, resL, gv, Option.some.injEq, exists_eq_left', Option.bind_some, Option.map_some, List.getD_cons_zero, List.getD_cons_succ, load3 (put_same _ _ _)]
    refine ⟨.inl ⟨?_, rfl⟩, Chg.ext hE.ext (Chg.put _ _ _) (by omega)⟩
    simp [excB, hg]
  · simp only [Bool.not_eq_false'] at hg
    have hgd : goodB k low high = true := by simp only [Bool.and_eq_true] at hg; exact hg.1
    have hod : ordN ord low.length = true := by simp only [Bool.and_eq_true] at hg; exact hg.2
    simp only [ordN, Bool.and_eq_true, decide_eq_true_eq] at hod
    obtain ⟨hlen, hos⟩ := hod
    obtain ⟨q1, q2, q3⟩ := ordS_in hos
    obtain ⟨g1, g2, g3, g4, g5, g6, g7⟩ := goodB_small hgd
    obtain ⟨kn, rfl⟩ : ∃ kn : Nat, k = kn := ⟨k.toNat, by omega⟩
    have ho1 := ho.keep (Keep.of_ext hE.ext (Nat.le_refl _)) (Nat.le_refl _)
    have hg1 := hE.lt
    refine s_skip1 ?_
    simp +decide only [p_seq_normal, p_seq_ret, p_seq_exit, p_block_normal, p_block_ret, p_block_exit, p_fin_ret, p_fin_normal, reduceIte, Nat.reduceEqDiff, resV, resOne, resL, gv, Option.some.injEq, exists_eq_left', Option.bind_some, Option.map_some, List.getD_cons_zero, List.getD_cons_succ]
    refine s_regT_cut (fun e' H' => ∃ (b c : Nat) (s1 t1 x7 x8 x9 x10 x11 : Value), ExSt H H' H.next r b c kn s t o s1 t1 low high ord 0 ∧ e' = [.agg #[.int .i64 kn, s, t], o, .pointer (some ⟨H.next, 0, none⟩), .pointer (some ⟨r, 0, none⟩), .bool false, s1, t1, x7, x8, x9, x10, x11]) ?_ ?_
    · have hz := mkslice_int (H := H1) 8 ord.length ord.length [.int .i64 0] (Nat.le_refl _) (by omega) (by omega)
      have hz2 := mkslice_int (H := H1.alloc (zerosL ord.length [.int .i64 0])) 8 ord.length ord.length [.int .i64 0] (Nat.le_refl _) (by omega) (by omega)
      simp only [o_cont, o_callT, callV_fn, o_pure, o_eff, o_callF, o_callN, o_guard, gk_tt, gk_ff, gk_tf, gk_ft, gk_u, t_op, t_alt, t_nil, o_nil, POp.ev, Opd.ev, EOp.ev, env0, gu, gv, setD, resV, List.set, List.map, List.map_nil, List.map_cons, Option.map_none, Option.map_some, Option.some.injEq, exists_eq_left', pickV, binV, convV, load1V, max2V, min2V, nilchkV, unV, boolEq, isNilV, fadV, extV, slenV, ne_eq, not_true_eq_false, if_false, if_true, ite_true, ite_false, Bool.false_eq_true, Bool.true_eq_false, beq_true, beq_false, beq_self_eq_true, Bool.not_true, Bool.not_false, reduceCtorEq, List.getElem?_toArray, List.getElem?_cons_zero, List.getElem?_cons_succ, ho1.lenV, hz, hz2]
      rw [zerosL_one]
      have k1 := vecI_mk H1 ord.length
      have k2 := vecI_mk (H1.alloc (List.replicate ord.length (.int .i64 0))) ord.length
      have kx := Ext.alloc H1 (List.replicate ord.length (.int .i64 0))
      have ky := Ext.alloc (H1.alloc (List.replicate ord.length (.int .i64 0))) (List.replicate ord.length (.int .i64 0))
      have kn1 : (H1.alloc (List.replicate ord.length (.int .i64 0))).next = H1.next + 1 := rfl
      refine ⟨⟨?_, ?_⟩, ?_⟩
      · exact ⟨_, _, _, _, _, _, _, _, _, ExSt.mk' hE ho1 (kx.trans ky) (k1.ext ky) k2 (Nat.le_refl _) (by omega) (by omega), rfl⟩
      · exact ⟨_, _, _, _, _, _, _, _, _, ExSt.mk' hE ho1 (kx.trans ky) (k1.ext ky) k2 (Nat.le_refl _) (by omega) (by omega), rfl⟩
      · exact ⟨_, _, _, _, _, _, _, _, _, ExSt.mk' hE ho1 (kx.trans ky) k2 (k1.ext ky) (by omega) (Nat.le_refl _) (by omega), rfl⟩
    rintro e' H3 ⟨b, c, s1, t1, x7, x8, x9, x10, x11, hst, rfl⟩
    refine s_assoc (s_reg ?_)
    simp only [o_cont, o_callT, callV_fn, o_pure, o_eff, o_callF, o_callN, o_guard, gk_tt, gk_ff, gk_tf, gk_ft, gk_u, t_op, t_alt, t_nil, o_nil, POp.ev, Opd.ev, EOp.ev, env0, gu, gv, setD, resV, List.set, List.map, List.map_nil, List.map_cons, Option.map_none, Option.map_some, Option.some.injEq, exists_eq_left', pickV, binV, convV, load1V, max2V, min2V, nilchkV, unV, boolEq, isNilV, fadV, extV, slenV, ne_eq, not_true_eq_false, if_false, if_true, ite_true, ite_false, Bool.false_eq_true, Bool.true_eq_false, beq_true, beq_false, beq_self_eq_true, Bool.not_true, Bool.not_false, reduceCtorEq, List.getElem?_toArray, List.getElem?_cons_zero, List.getElem?_cons_succ, ho1.lenV]
    refine s_block ?_
    refine s_loop1 (fun j e' H' => ∃ (i : Nat) (x7 x8 : Value), i + j = ord.length ∧ ExSt H H' H.next r b c kn s t o s1 t1 low high ord i ∧ e' = [.agg #[.int .i64 kn, s, t], o, .pointer (some ⟨H.next, 0, none⟩), .pointer (some ⟨r, 0, none⟩), .bool false, s1, t1, x7, x8, o, .int .i64 ord.length, .int .i64 i]) ord.length ⟨0, _, _, by omega, hst, rfl⟩ ?_
    clear hst
    rintro j e' H' ⟨i, x7, x8, hij, hst, rfl⟩
    obtain ⟨hE2, ho2, hvl, hvh, hge⟩ := id hst
    obtain ⟨hbl, hcl, hbc, hpb, hpc, hrb, hrc⟩ := hge
    refine s_test ?_
    simp only [o_cont, o_callT, callV_fn, o_pure, o_eff, o_callF, o_callN, o_guard, gk_tt, gk_ff, gk_tf, gk_ft, gk_u, t_op, t_alt, t_nil, o_nil, POp.ev, Opd.ev, EOp.ev, env0, gu, gv, setD, resV, List.set, List.map, List.map_nil, List.map_cons, Option.map_none, Option.map_some, Option.some.injEq, exists_eq_left', pickV, binV, convV, load1V, max2V, min2V, nilchkV, unV, boolEq, isNilV, fadV, extV, slenV, ne_eq, not_true_eq_false, if_false, if_true, ite_true, ite_false, Bool.false_eq_true, Bool.true_eq_false, beq_true, beq_false, beq_self_eq_true, Bool.not_true, Bool.not_false, reduceCtorEq, List.getElem?_toArray, List.getElem?_cons_zero, List.getElem?_cons_succ]
    refine Test.split (fun hlt => ?_) (fun hlt => ?_)
    · have hlt' : i < ord.length := by simpa using hlt
      have hil : i < low.length := by omega
      have hih : i < high.length := by omega
      have hq := q3 _ (List.getElem_mem hlt')
      obtain ⟨d, hd⟩ : ∃ d : Nat, ord[i] = (d : Int) := ⟨ord[i].toNat, by omega⟩
      have hdl : d < (placeN ord low i).length := by rw [placeN_length]; omega
      have hdh : d < (placeN ord high i).length := by rw [placeN_length]; omega
      obtain ⟨ba, oa, u1, u2, u3⟩ := SlI.get ho2 hlt'
      rw [hd] at u3
      obtain ⟨bb, o1, h1, h2, h3⟩ := SlI.get hE2.sl hil
      obtain ⟨cs5, hs5, hv5⟩ := hvl.put1 (lim := lim) (i := d) (by omega) (cells_int .i64 low[i]) hdl
      have ho5 := ho.keep (Keep.of_ext (Chg.ext hE2.ext (Chg.put b H' cs5) (by omega)) (Nat.le_refl _)) (Nat.le_refl _)
      refine s_skip1 ?_
      simp +decide only [p_seq_normal, p_seq_ret, p_seq_exit, p_block_normal, p_block_ret, p_block_exit, p_fin_ret, p_fin_normal, reduceIte, Nat.reduceEqDiff, resV, resOne, resL, gv, Option.some.injEq, exists_eq_left', Option.bind_some, Option.map_some, List.getD_cons_zero, List.getD_cons_succ]
      refine s_block ?_
      refine s_reg ?_
      simp only [o_cont, o_callT, callV_fn, o_pure, o_eff, o_callF, o_callN, o_guard, gk_tt, gk_ff, gk_tf, gk_ft, gk_u, t_op, t_alt, t_nil, o_nil, POp.ev, Opd.ev, EOp.ev, env0, gu, gv, setD, resV, List.set, List.map, List.map_nil, List.map_cons, Option.map_none, Option.map_some, Option.some.injEq, exists_eq_left', pickV, binV, convV, load1V, max2V, min2V, nilchkV, unV, boolEq, isNilV, fadV, extV, slenV, ne_eq, not_true_eq_false, if_false, if_true, ite_true, ite_false, Bool.false_eq_true, Bool.true_eq_false, beq_true, beq_false, beq_self_eq_true, Bool.not_true, Bool.not_false, reduceCtorEq, List.getElem?_toArray, List.getElem?_cons_zero, List.getElem?_cons_succ, u1, u3]
      obtain ⟨bb', o', h1', h2', h3'⟩ := SlI.get hE2.sh hih
      have hvh' := hvh.chg (Chg.put b H' cs5) (Ne.symm hbc)
      obtain ⟨cs6, hs6, hv6⟩ := hvh'.put1 (lim := lim) (i := d) (by omega) (cells_int .i64 high[i]) hdh
      refine s_reg1 ?_
      simp only [o_cont, o_callT, callV_fn, o_pure, o_eff, o_callF, o_callN, o_guard, gk_tt, gk_ff, gk_tf, gk_ft, gk_u, t_op, t_alt, t_nil, o_nil, POp.ev, Opd.ev, EOp.ev, env0, gu, gv, setD, resV, List.set, List.map, List.map_nil, List.map_cons, Option.map_none, Option.map_some, Option.some.injEq, exists_eq_left', pickV, binV, convV, load1V, max2V, min2V, nilchkV, unV, boolEq, isNilV, fadV, extV, slenV, ne_eq, not_true_eq_false, if_false, if_true, ite_true, ite_false, Bool.false_eq_true, Bool.true_eq_false, beq_true, beq_false, beq_self_eq_true, Bool.not_true, Bool.not_false, reduceCtorEq, List.getElem?_toArray, List.getElem?_cons_zero, List.getElem?_cons_succ, cell_blk hE2.bp, Nat.zero_add, h1, h3, h1', h3', hvl.iad .i64 hdl, hvh.iad .i64 hdh, Nat.mul_one, hs5, hs6]
      replace hE2 := hE2.chg hs ht (Chg.put b H' cs5) (by omega) hpb hrb
      generalize H'.put b cs5 = H5 at hv5 hvh' hv6 hE2 ho5 ⊢
      have ho6 := ho.keep (Keep.of_ext (Chg.ext hE2.ext (Chg.put c H5 cs6) (by omega)) (Nat.le_refl _)) (Nat.le_refl _)
      replace hv5 := hv5.chg (Chg.put c H5 cs6) hbc
      replace hE2 := hE2.chg hs ht (Chg.put c H5 cs6) (by omega) hpc hrc
      generalize H5.put c cs6 = H6 at hv5 hv6 hE2 ho6 ⊢
      simp +decide only [p_seq_normal, p_seq_ret, p_seq_exit, p_block_normal, p_block_ret, p_block_exit, p_fin_ret, p_fin_normal, reduceIte, Nat.reduceEqDiff, resV, resOne, resL, gv, Option.some.injEq, exists_eq_left', Option.bind_some, Option.map_some, List.getD_cons_zero, List.getD_cons_succ]
      refine s_reg1 ?_
      simp only [o_cont, o_callT, callV_fn, o_pure, o_eff, o_callF, o_callN, o_guard, gk_tt, gk_ff, gk_tf, gk_ft, gk_u, t_op, t_alt, t_nil, o_nil, POp.ev, Opd.ev, EOp.ev, env0, gu, gv, setD, resV, List.set, List.map, List.map_nil, List.map_cons, Option.map_none, Option.map_some, Option.some.injEq, exists_eq_left', pickV, binV, convV, load1V, max2V, min2V, nilchkV, unV, boolEq, isNilV, fadV, extV, slenV, ne_eq, not_true_eq_false, if_false, if_true, ite_true, ite_false, Bool.false_eq_true, Bool.true_eq_false, beq_true, beq_false, beq_self_eq_true, Bool.not_true, Bool.not_false, reduceCtorEq, List.getElem?_toArray, List.getElem?_cons_zero, List.getElem?_cons_succ, add1 (i := i) (by omega)]
      simp +decide only [p_seq_normal, p_seq_ret, p_seq_exit, p_block_normal, p_block_ret, p_block_exit, p_fin_ret, p_fin_normal, reduceIte, Nat.reduceEqDiff, resV, resOne, resL, gv, Option.some.injEq, exists_eq_left', Option.bind_some, Option.map_some, List.getD_cons_zero, List.getD_cons_succ]
      refine Round.mk (j - 1) (by omega) ⟨i + 1, _, _, by omega, ⟨hE2, ho6, ?_, ?_, hbl, hcl, hbc, hpb, hpc, hrb, hrc⟩, rfl⟩
      · rw [placeN_succ]
        unfold VecI
        rw [List.length_set, List.map_set]
        simpa [hlt', hd, hil] using hv5
      · rw [placeN_succ]
        unfold VecI
        rw [List.length_set, List.map_set]
        simpa [hlt', hd, hih] using hv6
    · have hge : i = low.length := by simp at hlt; omega
      subst hge
      have hl6 := hE2.lt
      have hn6 := hE2.ext.next
      refine s_exit1 ?_
      simp +decide only [p_seq_normal, p_seq_ret, p_seq_exit, p_block_normal, p_block_ret, p_block_exit, p_fin_ret, p_fin_normal, reduceIte, Nat.reduceEqDiff, resV, resOne, resL, gv, Option.some.injEq, exists_eq_left', Option.bind_some, Option.map_some, List.getD_cons_zero, List.getD_cons_succ]
      refine s_reg ?_
      simp only [o_cont, o_callT, callV_fn, o_pure, o_eff, o_callF, o_callN, o_guard, gk_tt, gk_ff, gk_tf, gk_ft, gk_u, t_op, t_alt, t_nil, o_nil, POp.ev, Opd.ev, EOp.ev, env0, gu, gv, setD, resV, List.set, List.map, List.map_nil, List.map_cons, Option.map_none, Option.map_some, Option.some.injEq, exists_eq_left', pickV, binV, convV, load1V, max2V, min2V, nilchkV, unV, boolEq, isNilV, fadV, extV, slenV, ne_eq, not_true_eq_false, if_false, if_true, ite_true, ite_false, Bool.false_eq_true, Bool.true_eq_false, beq_true, beq_false, beq_self_eq_true, Bool.not_true, Bool.not_false, reduceCtorEq, List.getElem?_toArray, List.getElem?_cons_zero, List.getElem?_cons_succ, cell_blk hE2.bp, Nat.zero_add]
      refine (boxOf_ok lim kn s1 t1 _ _ H' (by omega) hvl.sl hvh.sl (by rw [placeN_length]; omega) (by rw [placeN_length]; omega) (by rw [placeN_length, placeN_length]) (by omega) (placeN_in _ _ (InR.of_small g6) _ (by omega)) (placeN_in _ _ (InR.of_small g7) _ (by omega))).mono ?_
      rintro v H7 ⟨hR, hx7⟩
      replace hE2 := hE2.mono hx7
      obtain ⟨x, y, z, rfl⟩ := hR.form
      simp only [o_cont, o_callT, callV_fn, o_pure, o_eff, o_callF, o_callN, o_guard, gk_tt, gk_ff, gk_tf, gk_ft, gk_u, t_op, t_alt, t_nil, o_nil, POp.ev, Opd.ev, EOp.ev, env0, gu, gv, setD, resV, List.set, List.map, List.map_nil, List.map_cons, Option.map_none, Option.map_some, Option.some.injEq, exists_eq_left', pickV, binV, convV, load1V, max2V, min2V, nilchkV, unV, boolEq, isNilV, fadV, extV, slenV, ne_eq, not_true_eq_false, if_false, if_true, ite_true, ite_false, Bool.false_eq_true, Bool.true_eq_false, beq_true, beq_false, beq_self_eq_true, Bool.not_true, Bool.not_false, reduceCtorEq, List.getElem?_toArray, List.getElem?_cons_zero, List.getElem?_cons_succ, store3 (lim := lim) (b := r) (by omega) hE2.br]
      refine s_ret1 ?_
      simp +decide only [p_seq_normal, p_seq_ret, p_seq_exit, p_block_normal, p_block_ret, p_block_exit, p_fin_ret, p_fin_normal, reduceIte, Nat.reduceEqDiff, resV, resOne, resL, gv, Option.some.injEq, exists_eq_left', Option.bind_some, Option.map_some, List.getD_cons_zero, List.getD_cons_succ, load3 (put_same _ _ _)]
      refine ⟨?_, Chg.ext hE2.ext (Chg.put _ _ _) (by omega)⟩
      have hmir : excB kn ord low high = makeB kn (placeN ord low low.length) (placeN ord high low.length) := by
        unfold excB
        rw [if_pos hg]
        simp
      rw [hmir]
      exact (hR.put (by omega) _).low (by omega)
end Go.Proofs.Ytfnjjkljpegoeaa
