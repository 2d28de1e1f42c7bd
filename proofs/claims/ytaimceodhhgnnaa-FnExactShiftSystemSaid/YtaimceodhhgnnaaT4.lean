/- Systems of polynomials, part 4 of the walk: systems laid with hidden room, and what tells them intact; no condition beyond stated lengths. -/
import Derived.Test.YtaimceodhhgnnaaT3
namespace Go.Proofs.Ytaimceodhhgnnaa
open Go.Ab
set_option linter.unusedSimpArgs false
set_option linter.unusedVariables false

/-- a system laid with its hidden room -/
structure LaidX (H : AHeap) (lo hi b : Nat) (vs fs : List Value) (bs : List Nat) (v : Value) (ss : List (List Tm)) (bare : Bool) : Prop where
  v : v = .slice (some ⟨b, 0, some 0⟩) ss.length (ss.length + roomN ss.length)
  vec : Vec H b (.slice (some ⟨b, 0, some 0⟩) (ss.length + roomN ss.length) (ss.length + roomN ss.length)) (ss.length + roomN ss.length) 1 (vs ++ fs)
  vlen : vs.length = ss.length
  len : bs.length = ss.length
  rng : lo ≤ b ∧ b < hi
  nodup : bare = false → bs.Nodup
  nin : b ∉ bs
  rngs : bare = false → ∀ c ∈ bs, lo ≤ c ∧ c < hi
  el : ∀ (i : Nat) (p : List Tm), ss[i]? = some p → ∃ s c, vs[i]? = some s ∧ bs[i]? = some c ∧ CopyT H c s p bare
  fil : ∀ f ∈ fs, SlT H f [filT]
def LaidSS (H : AHeap) (lo hi : Nat) (v : Value) (ss : List (List Tm)) (bare : Bool) : Prop := (bare = true ∧ v = .slice none 0 0 ∧ ss = []) ∨ ∃ b vs fs bs, LaidX H lo hi b vs fs bs v ss bare

theorem LaidX.short {H : AHeap} {lo hi b : Nat} {vs fs : List Value} {bs : List Nat} {v : Value} {ss : List (List Tm)} {bare : Bool} (h : LaidX H lo hi b vs fs bs v ss bare) : Vec H b v ss.length 1 vs := by
  obtain ⟨rfl, hv, hl, _⟩ := h
  rcases hv with ⟨h1, _⟩ | ⟨c, sp, rest, h1, h2, h3, h4, h5, h6, h7⟩
  · cases h1
  · simp only [Value.slice.injEq, Option.some.injEq, Addr.mk.injEq, true_and] at h1
    obtain ⟨rfl, rfl⟩ := h1
    exact .inr ⟨_, _, fs ++ rest, rfl, .inl rfl, h3, by rw [h4, List.append_assoc], by omega, by omega, by
      have e1 : (vs ++ fs).length = vs.length + fs.length := List.length_append
      rw [List.length_append]; omega⟩
theorem LaidX.slss {H : AHeap} {lo hi b : Nat} {vs fs : List Value} {bs : List Nat} {v : Value} {ss : List (List Tm)} {bare : Bool} (h : LaidX H lo hi b vs fs bs v ss bare) : SlSS H v ss := by
  refine ⟨vs, h.short.sl, fun i p hp => ?_⟩
  obtain ⟨s, c, g1, g2, g3⟩ := h.el i p hp
  exact ⟨s, g1, Vec.sl g3.vec⟩
theorem LaidX.own {H : AHeap} {lo hi b : Nat} {vs fs : List Value} {bs : List Nat} {v : Value} {ss : List (List Tm)} (h : LaidX H lo hi b vs fs bs v ss false) : OwnX H lo hi b vs bs v ss := by
  refine ⟨h.short, h.len, h.rng, h.nodup rfl, h.nin, h.rngs rfl, fun i p hp => ?_⟩
  obtain ⟨s, c, g1, g2, g3⟩ := h.el i p hp
  exact ⟨s, c, g1, g2, g3.vec⟩
theorem LaidX.ext {H H' : AHeap} {lo hi b : Nat} {vs fs : List Value} {bs : List Nat} {v : Value} {ss : List (List Tm)} {bare : Bool} (h : LaidX H lo hi b vs fs bs v ss bare) (hx : Ext H H') : LaidX H' lo hi b vs fs bs v ss bare := by
  refine ⟨h.v, h.vec.ext hx, h.vlen, h.len, h.rng, h.nodup, h.nin, h.rngs, fun i p hp => ?_, fun f hf => (h.fil f hf).ext hx⟩
  obtain ⟨s, c, g1, g2, g3⟩ := h.el i p hp
  exact ⟨s, c, g1, g2, g3.ext hx⟩
theorem LaidSS.slss {H : AHeap} {lo hi : Nat} {v : Value} {ss : List (List Tm)} {bare : Bool} (h : LaidSS H lo hi v ss bare) : SlSS H v ss := by
  rcases h with ⟨_, rfl, rfl⟩ | ⟨b, vs, fs, bs, h⟩
  · exact SlSS.nil _
  · exact h.slss
theorem LaidSS.ext {H H' : AHeap} {lo hi : Nat} {v : Value} {ss : List (List Tm)} {bare : Bool} (h : LaidSS H lo hi v ss bare) (hx : Ext H H') : LaidSS H' lo hi v ss bare := by
  rcases h with h | ⟨b, vs, fs, bs, h⟩
  · exact .inl h
  · exact .inr ⟨b, vs, fs, bs, h.ext hx⟩
theorem LaidSS.own {H : AHeap} {lo hi : Nat} {v : Value} {ss : List (List Tm)} (h : LaidSS H lo hi v ss false) : OwnSS H lo hi v ss := by
  rcases h with ⟨h, _⟩ | ⟨b, vs, fs, bs, h⟩
  · cases h
  · exact .inr ⟨b, vs, bs, h.own⟩

theorem bsliceT (H : AHeap) (t : Tm) : bsliceH H 1 [.int .i64 0, .int .i64 0, .int .i64 0, .int .i64 0] [(0, 4, tv t)] = some (.slice (some ⟨H.next, 0, some 0⟩) 1 1, H.alloc (tc t)) := by
  simp [bsliceH, fillV, cells_tv, tc]
theorem sl_one (H : AHeap) (t : Tm) : SlT (H.alloc (tc t)) (.slice (some ⟨H.next, 0, some 0⟩) 1 1) [t] := by
  have := Vec.lit (H := H) (n := 1) (sz := 4) (cells := tc t) rfl
  have h2 := Vec.sl this
  have e : tcs [t] = tc t := by simp [tcs]
  unfold SlT
  rw [e]
  exact h2
theorem setApp {α : Type} {vs : List α} {z x : α} {i m : Nat} (h : vs.length = i) (hi : i < m) : (vs ++ List.replicate (m - i) z).set i x = (vs ++ [x]) ++ List.replicate (m - (i + 1)) z := by
  have e1 : m - i = (m - (i + 1)) + 1 := by omega
  rw [e1, List.replicate_succ, List.set_append_right _ _ (by omega), h, Nat.sub_self, List.set_cons_zero]
  simp
theorem zerosN : ∀ n, zerosL n [.slice none 0 0] = List.replicate n (.slice none 0 0) := fun n => zerosL_one n _

theorem toTermSS_ok (lim : Nat) (s : Value) (ss : List (List Tm)) (bare : Bool) (H : AHeap) (hl : lim ≤ H.next) (hs : SlSS H s ss) (hn : ss.length ≤ 1000000) (hn2 : ∀ p ∈ ss, p.length ≤ 1000000) :
    ACalls Try.prog lim n_laws_toTermSS [s, .bool bare] H fun v H' => LaidSS H' H.next H'.next v ss bare ∧ Ext H H' := by
  refine is_laws_toTermSS.go rfl ?_
  unfold c_laws_toTermSS
  refine s_reg ?_
  simp only [o_cont, o_callT, callV_fn, o_pure, o_eff, o_callF, o_callN, o_guard, gk_tt, gk_ff, gk_tf, gk_ft, gk_u, t_op, t_alt, t_nil, o_nil, POp.ev, Opd.ev, EOp.ev, env0, gu, gv, setD, resV, List.set, List.map, List.map_nil, List.map_cons, Option.map_none, Option.map_some, Option.some.injEq, exists_eq_left', pickV, binV, convV, load1V, max2V, min2V, nilchkV, unV, boolEq, isNilV, fadV, extV, slenV, ne_eq, not_true_eq_false, if_false, if_true, ite_true, ite_false, Bool.false_eq_true, Bool.true_eq_false, beq_true, beq_false, beq_self_eq_true, Bool.not_true, Bool.not_false, reduceCtorEq, List.getElem?_toArray, List.getElem?_cons_zero, List.getElem?_cons_succ]
  have hR := roomN_le ss.length
  refine s_test_cut (decide (bare = true ∧ ss.length = 0)) [s, .bool bare, .slice none 0 0, undef, undef, undef] H ?_ (fun h => ?_) (fun h => ?_)
  · cases bare
    · simp only [o_cont, o_callT, callV_fn, o_pure, o_eff, o_callF, o_callN, o_guard, gk_tt, gk_ff, gk_tf, gk_ft, gk_u, t_op, t_alt, t_nil, o_nil, POp.ev, Opd.ev, EOp.ev, env0, gu, gv, setD, resV, List.set, List.map, List.map_nil, List.map_cons, Option.map_none, Option.map_some, Option.some.injEq, exists_eq_left', pickV, binV, convV, load1V, max2V, min2V, nilchkV, unV, boolEq, isNilV, fadV, extV, slenV, ne_eq, not_true_eq_false, if_false, if_true, ite_true, ite_false, Bool.false_eq_true, Bool.true_eq_false, beq_true, beq_false, beq_self_eq_true, Bool.not_true, Bool.not_false, reduceCtorEq, List.getElem?_toArray, List.getElem?_cons_zero, List.getElem?_cons_succ]
      simp
    · simp only [o_cont, o_callT, callV_fn, o_pure, o_eff, o_callF, o_callN, o_guard, gk_tt, gk_ff, gk_tf, gk_ft, gk_u, t_op, t_alt, t_nil, o_nil, POp.ev, Opd.ev, EOp.ev, env0, gu, gv, setD, resV, List.set, List.map, List.map_nil, List.map_cons, Option.map_none, Option.map_some, Option.some.injEq, exists_eq_left', pickV, binV, convV, load1V, max2V, min2V, nilchkV, unV, boolEq, isNilV, fadV, extV, slenV, ne_eq, not_true_eq_false, if_false, if_true, ite_true, ite_false, Bool.false_eq_true, Bool.true_eq_false, beq_true, beq_false, beq_self_eq_true, Bool.not_true, Bool.not_false, reduceCtorEq, List.getElem?_toArray, List.getElem?_cons_zero, List.getElem?_cons_succ, hs.lenV]
      simp [nat_eq0]
  · refine s_reg ?_
    simp only [o_cont, o_callT, callV_fn, o_pure, o_eff, o_callF, o_callN, o_guard, gk_tt, gk_ff, gk_tf, gk_ft, gk_u, t_op, t_alt, t_nil, o_nil, POp.ev, Opd.ev, EOp.ev, env0, gu, gv, setD, resV, List.set, List.map, List.map_nil, List.map_cons, Option.map_none, Option.map_some, Option.some.injEq, exists_eq_left', pickV, binV, convV, load1V, max2V, min2V, nilchkV, unV, boolEq, isNilV, fadV, extV, slenV, ne_eq, not_true_eq_false, if_false, if_true, ite_true, ite_false, Bool.false_eq_true, Bool.true_eq_false, beq_true, beq_false, beq_self_eq_true, Bool.not_true, Bool.not_false, reduceCtorEq, List.getElem?_toArray, List.getElem?_cons_zero, List.getElem?_cons_succ]
    refine s_ret1 ?_
    simp +decide only [p_seq_normal, p_seq_ret, p_seq_exit, p_block_normal, p_block_ret, p_block_exit, p_fin_ret, p_fin_normal, reduceIte, Nat.reduceEqDiff, resV, resOne, resL, gv, Option.some.injEq, exists_eq_left', Option.bind_some, Option.map_some, List.getD_cons_zero, List.getD_cons_succ]
    simp only [decide_eq_true_eq] at h
    exact ⟨.inl ⟨h.1, rfl, List.length_eq_zero_iff.1 h.2⟩, Ext.refl _⟩
  · refine s_skip1 ?_
    simp +decide only [p_seq_normal, p_seq_ret, p_seq_exit, p_block_normal, p_block_ret, p_block_exit, p_fin_ret, p_fin_normal, reduceIte, Nat.reduceEqDiff, resV, resOne, resL, gv, Option.some.injEq, exists_eq_left', Option.bind_some, Option.map_some, List.getD_cons_zero, List.getD_cons_succ]
    refine s_reg ?_
    simp only [o_cont, o_callT, callV_fn, o_pure, o_eff, o_callF, o_callN, o_guard, gk_tt, gk_ff, gk_tf, gk_ft, gk_u, t_op, t_alt, t_nil, o_nil, POp.ev, Opd.ev, EOp.ev, env0, gu, gv, setD, resV, List.set, List.map, List.map_nil, List.map_cons, Option.map_none, Option.map_some, Option.some.injEq, exists_eq_left', pickV, binV, convV, load1V, max2V, min2V, nilchkV, unV, boolEq, isNilV, fadV, extV, slenV, ne_eq, not_true_eq_false, if_false, if_true, ite_true, ite_false, Bool.false_eq_true, Bool.true_eq_false, beq_true, beq_false, beq_self_eq_true, Bool.not_true, Bool.not_false, reduceCtorEq, List.getElem?_toArray, List.getElem?_cons_zero, List.getElem?_cons_succ, hs.lenV]
    refine (roomBehind_ok _ _ _).eq ?_
    have w1 := addN (i := ss.length) (j := roomN ss.length) (by omega)
    simp only [o_cont, o_callT, callV_fn, o_pure, o_eff, o_callF, o_callN, o_guard, gk_tt, gk_ff, gk_tf, gk_ft, gk_u, t_op, t_alt, t_nil, o_nil, POp.ev, Opd.ev, EOp.ev, env0, gu, gv, setD, resV, List.set, List.map, List.map_nil, List.map_cons, Option.map_none, Option.map_some, Option.some.injEq, exists_eq_left', pickV, binV, convV, load1V, max2V, min2V, nilchkV, unV, boolEq, isNilV, fadV, extV, slenV, ne_eq, not_true_eq_false, if_false, if_true, ite_true, ite_false, Bool.false_eq_true, Bool.true_eq_false, beq_true, beq_false, beq_self_eq_true, Bool.not_true, Bool.not_false, reduceCtorEq, List.getElem?_toArray, List.getElem?_cons_zero, List.getElem?_cons_succ, w1, mkslice_int 24 (ss.length + roomN ss.length) (ss.length + roomN ss.length) [.slice none 0 0] (Nat.le_refl _) (by omega) (by omega), zerosN]
    have hv0 : Vec (H.alloc (List.replicate (ss.length + roomN ss.length) (Value.slice none 0 0))) H.next (.slice (some ⟨H.next, 0, some 0⟩) (ss.length + roomN ss.length) (ss.length + roomN ss.length)) (ss.length + roomN ss.length) 1 (List.replicate (ss.length + roomN ss.length) (Value.slice none 0 0)) := Vec.lit (by simp)
    have hx0 := Ext.alloc H (List.replicate (ss.length + roomN ss.length) (Value.slice none 0 0))
    have hn0 : (H.alloc (List.replicate (ss.length + roomN ss.length) (Value.slice none 0 0))).next = H.next + 1 := rfl
    generalize H.alloc (List.replicate (ss.length + roomN ss.length) (Value.slice none 0 0)) = H1 at hv0 hx0 hn0 ⊢
    generalize hN : ss.length + roomN ss.length = N at *
    refine s_assoc (s_reg ?_)
    simp only [o_cont, o_callT, callV_fn, o_pure, o_eff, o_callF, o_callN, o_guard, gk_tt, gk_ff, gk_tf, gk_ft, gk_u, t_op, t_alt, t_nil, o_nil, POp.ev, Opd.ev, EOp.ev, env0, gu, gv, setD, resV, List.set, List.map, List.map_nil, List.map_cons, Option.map_none, Option.map_some, Option.some.injEq, exists_eq_left', pickV, binV, convV, load1V, max2V, min2V, nilchkV, unV, boolEq, isNilV, fadV, extV, slenV, ne_eq, not_true_eq_false, if_false, if_true, ite_true, ite_false, Bool.false_eq_true, Bool.true_eq_false, beq_true, beq_false, beq_self_eq_true, Bool.not_true, Bool.not_false, reduceCtorEq, List.getElem?_toArray, List.getElem?_cons_zero, List.getElem?_cons_succ]
    refine s_block ?_
    refine s_loop1 (fun k e' H' => ∃ (i : Nat) (vs : List Value) (bs : List Nat), i + k = ss.length ∧ vs.length = i ∧ bs.length = i ∧ Vec H' H.next (.slice (some ⟨H.next, 0, some 0⟩) N N) N 1 (vs ++ List.replicate (N - i) (.slice none 0 0)) ∧
      (bare = false → bs.Nodup) ∧ (∀ c ∈ bs, H.next < c) ∧ (bare = false → ∀ c ∈ bs, c < H'.next) ∧ (∀ (j : Nat) (p : List Tm), (ss.take i)[j]? = some p → ∃ s c, vs[j]? = some s ∧ bs[j]? = some c ∧ CopyT H' c s p bare) ∧
      Ext H H' ∧ H.next < H'.next ∧ e' = [s, .bool bare, .slice none 0 0, .slice (some ⟨H.next, 0, some 0⟩) N N, .int .i64 i, undef]) ss.length
      ⟨0, [], [], by omega, rfl, rfl, by simpa using hv0, fun _ => List.nodup_nil, (by intro c hc; simp at hc), (by intro _ c hc; simp at hc), (by intro j p hp; simp at hp), hx0, by omega, rfl⟩ ?_
    clear hv0 hx0 hn0
    rintro k e' H' ⟨i, vs, bs, hik, hvl, hbl, hv, hnd, hgt, hltb, hel, hx, hlt0, rfl⟩
    refine s_test ?_
    simp only [o_cont, o_callT, callV_fn, o_pure, o_eff, o_callF, o_callN, o_guard, gk_tt, gk_ff, gk_tf, gk_ft, gk_u, t_op, t_alt, t_nil, o_nil, POp.ev, Opd.ev, EOp.ev, env0, gu, gv, setD, resV, List.set, List.map, List.map_nil, List.map_cons, Option.map_none, Option.map_some, Option.some.injEq, exists_eq_left', pickV, binV, convV, load1V, max2V, min2V, nilchkV, unV, boolEq, isNilV, fadV, extV, slenV, ne_eq, not_true_eq_false, if_false, if_true, ite_true, ite_false, Bool.false_eq_true, Bool.true_eq_false, beq_true, beq_false, beq_self_eq_true, Bool.not_true, Bool.not_false, reduceCtorEq, List.getElem?_toArray, List.getElem?_cons_zero, List.getElem?_cons_succ, hs.lenV]
    refine Test.split (fun hlt => ?_) (fun hlt => ?_)
    · have hlt' : i < ss.length := by simpa using hlt
      refine s_skip1 ?_
      simp +decide only [p_seq_normal, p_seq_ret, p_seq_exit, p_block_normal, p_block_ret, p_block_exit, p_fin_ret, p_fin_normal, reduceIte, Nat.reduceEqDiff, resV, resOne, resL, gv, Option.some.injEq, exists_eq_left', Option.bind_some, Option.map_some, List.getD_cons_zero, List.getD_cons_succ]
      refine s_block ?_
      refine s_reg1 ?_
      obtain ⟨bb, o, s1, h1, h2, h3⟩ := (hs.ext hx).at hlt'
      simp only [o_cont, o_callT, callV_fn, o_pure, o_eff, o_callF, o_callN, o_guard, gk_tt, gk_ff, gk_tf, gk_ft, gk_u, t_op, t_alt, t_nil, o_nil, POp.ev, Opd.ev, EOp.ev, env0, gu, gv, setD, resV, List.set, List.map, List.map_nil, List.map_cons, Option.map_none, Option.map_some, Option.some.injEq, exists_eq_left', pickV, binV, convV, load1V, max2V, min2V, nilchkV, unV, boolEq, isNilV, fadV, extV, slenV, ne_eq, not_true_eq_false, if_false, if_true, ite_true, ite_false, Bool.false_eq_true, Bool.true_eq_false, beq_true, beq_false, beq_self_eq_true, Bool.not_true, Bool.not_false, reduceCtorEq, List.getElem?_toArray, List.getElem?_cons_zero, List.getElem?_cons_succ, h1, h2]
      refine (toTermS_ok lim s1 _ bare _ (by omega) h3 (hn2 _ (List.getElem_mem hlt'))).mono ?_
      rintro s2 H2 ⟨⟨c, hc1, hc2, hcp⟩, hx2⟩
      replace hv := Vec.ext hv hx2
      have hcv : cellsV s2 = some [s2] := Vec.cellsV hcp.vec
      obtain ⟨cs, g1, g2⟩ := hv.put1 (lim := lim) (by omega) hcv (show i < N by omega)
      rw [setApp hvl (by omega)] at g2
      have i1 := Vec.iad hv .i64 (show i < N by omega)
      rw [Nat.mul_one] at i1
      have hn2' := hx2.next
      simp only [o_cont, o_callT, callV_fn, o_pure, o_eff, o_callF, o_callN, o_guard, gk_tt, gk_ff, gk_tf, gk_ft, gk_u, t_op, t_alt, t_nil, o_nil, POp.ev, Opd.ev, EOp.ev, env0, gu, gv, setD, resV, List.set, List.map, List.map_nil, List.map_cons, Option.map_none, Option.map_some, Option.some.injEq, exists_eq_left', pickV, binV, convV, load1V, max2V, min2V, nilchkV, unV, boolEq, isNilV, fadV, extV, slenV, ne_eq, not_true_eq_false, if_false, if_true, ite_true, ite_false, Bool.false_eq_true, Bool.true_eq_false, beq_true, beq_false, beq_self_eq_true, Bool.not_true, Bool.not_false, reduceCtorEq, List.getElem?_toArray, List.getElem?_cons_zero, List.getElem?_cons_succ, i1, g1]
      simp +decide only [p_seq_normal, p_seq_ret, p_seq_exit, p_block_normal, p_block_ret, p_block_exit, p_fin_ret, p_fin_normal, reduceIte, Nat.reduceEqDiff, resV, resOne, resL, gv, Option.some.injEq, exists_eq_left', Option.bind_some, Option.map_some, List.getD_cons_zero, List.getD_cons_succ]
      refine s_reg1 ?_
      simp only [o_cont, o_callT, callV_fn, o_pure, o_eff, o_callF, o_callN, o_guard, gk_tt, gk_ff, gk_tf, gk_ft, gk_u, t_op, t_alt, t_nil, o_nil, POp.ev, Opd.ev, EOp.ev, env0, gu, gv, setD, resV, List.set, List.map, List.map_nil, List.map_cons, Option.map_none, Option.map_some, Option.some.injEq, exists_eq_left', pickV, binV, convV, load1V, max2V, min2V, nilchkV, unV, boolEq, isNilV, fadV, extV, slenV, ne_eq, not_true_eq_false, if_false, if_true, ite_true, ite_false, Bool.false_eq_true, Bool.true_eq_false, beq_true, beq_false, beq_self_eq_true, Bool.not_true, Bool.not_false, reduceCtorEq, List.getElem?_toArray, List.getElem?_cons_zero, List.getElem?_cons_succ, add1 (i := i) (by omega)]
      simp +decide only [p_seq_normal, p_seq_ret, p_seq_exit, p_block_normal, p_block_ret, p_block_exit, p_fin_ret, p_fin_normal, reduceIte, Nat.reduceEqDiff, resV, resOne, resL, gv, Option.some.injEq, exists_eq_left', Option.bind_some, Option.map_some, List.getD_cons_zero, List.getD_cons_succ]
      have hnn : (H2.put H.next cs).next = H2.next := rfl
      have htk : ss.take (i + 1) = ss.take i ++ [ss[i]] := by rw [List.take_add_one, List.getElem?_eq_getElem hlt']; rfl
      refine Round.mk (k - 1) (by omega) ⟨i + 1, vs ++ [s2], bs ++ [c], by omega, by simp [hvl], by simp [hbl], g2, fun hb => ?_, fun c' hc' => ?_, fun hb c' hc' => ?_, fun j p hp => ?_, Chg.ext (hx.trans hx2) (Chg.put _ _ _) (Nat.le_refl _), by omega, rfl⟩
      · refine List.nodup_append.2 ⟨hnd hb, by simp, ?_⟩
        intro x hx' y hy
        simp at hy
        subst hy
        have := hltb hb x hx'
        omega
      · rcases List.mem_append.1 hc' with h | h
        · exact hgt c' h
        · simp at h; omega
      · rcases List.mem_append.1 hc' with h | h
        · have := hltb hb c' h; omega
        · simp at h
          subst h
          subst hb
          rcases hcp with ⟨h, _⟩ | h
          · cases h
          · rw [hnn]; exact h.lt
      · rw [htk] at hp
        by_cases hj : j < i
        · rw [List.getElem?_append_left (by simp; omega)] at hp
          obtain ⟨s', c', q1, q2, q3⟩ := hel j p hp
          have hm := hgt c' (List.mem_of_getElem? q2)
          exact ⟨s', c', by rw [List.getElem?_append_left (by omega)]; exact q1, by rw [List.getElem?_append_left (by omega)]; exact q2, (q3.ext hx2).chg (Chg.put _ _ _) (by omega)⟩
        · rw [List.getElem?_append_right (by simp; omega)] at hp
          have hji : j = i := by
            have := (List.getElem?_eq_some_iff.1 hp).1
            simp at this; omega
          subst hji
          simp [Nat.min_eq_left (Nat.le_of_lt hlt')] at hp
          subst hp
          exact ⟨s2, c, by rw [List.getElem?_append_right (by omega)]; simp [hvl], by rw [List.getElem?_append_right (by omega)]; simp [hbl], hcp.chg (Chg.put _ _ _) (by omega)⟩
    · have hge : i = ss.length := by simp at hlt; omega
      subst hge
      rw [List.take_length] at hel
      refine s_exit1 ?_
      simp +decide only [p_seq_normal, p_seq_ret, p_seq_exit, p_block_normal, p_block_ret, p_block_exit, p_fin_ret, p_fin_normal, reduceIte, Nat.reduceEqDiff, resV, resOne, resL, gv, Option.some.injEq, exists_eq_left', Option.bind_some, Option.map_some, List.getD_cons_zero, List.getD_cons_succ]
      refine s_assoc (s_reg ?_)
      simp only [o_cont, o_callT, callV_fn, o_pure, o_eff, o_callF, o_callN, o_guard, gk_tt, gk_ff, gk_tf, gk_ft, gk_u, t_op, t_alt, t_nil, o_nil, POp.ev, Opd.ev, EOp.ev, env0, gu, gv, setD, resV, List.set, List.map, List.map_nil, List.map_cons, Option.map_none, Option.map_some, Option.some.injEq, exists_eq_left', pickV, binV, convV, load1V, max2V, min2V, nilchkV, unV, boolEq, isNilV, fadV, extV, slenV, ne_eq, not_true_eq_false, if_false, if_true, ite_true, ite_false, Bool.false_eq_true, Bool.true_eq_false, beq_true, beq_false, beq_self_eq_true, Bool.not_true, Bool.not_false, reduceCtorEq, List.getElem?_toArray, List.getElem?_cons_zero, List.getElem?_cons_succ, hs.lenV]
      refine s_block ?_
      refine s_loop1 (fun k e' H' => ∃ (i : Nat) (fs : List Value), ss.length ≤ i ∧ i + k = N ∧ ss.length + fs.length = i ∧ Vec H' H.next (.slice (some ⟨H.next, 0, some 0⟩) N N) N 1 ((vs ++ fs) ++ List.replicate (N - i) (.slice none 0 0)) ∧
        (bare = false → ∀ c ∈ bs, c < H'.next) ∧ (∀ (j : Nat) (p : List Tm), ss[j]? = some p → ∃ s c, vs[j]? = some s ∧ bs[j]? = some c ∧ CopyT H' c s p bare) ∧ (∀ f ∈ fs, SlT H' f [filT] ∧ ∃ c, H.next < c ∧ f = .slice (some ⟨c, 0, some 0⟩) 1 1) ∧
        Ext H H' ∧ H.next < H'.next ∧ e' = [s, .bool bare, .slice none 0 0, .slice (some ⟨H.next, 0, some 0⟩) N N, .int .i64 ss.length, .int .i64 i]) (N - ss.length)
        ⟨ss.length, [], by omega, by omega, by simp, by simpa using hv, hltb, hel, (by intro f hf; simp at hf), hx, hlt0, rfl⟩ ?_
      clear hv hx hlt0 hltb hel
      rintro k e' H' ⟨i, fs, hli, hik, hfl, hv, hltb, hel, hfil, hx, hlt0, rfl⟩
      refine s_test ?_
      simp only [o_cont, o_callT, callV_fn, o_pure, o_eff, o_callF, o_callN, o_guard, gk_tt, gk_ff, gk_tf, gk_ft, gk_u, t_op, t_alt, t_nil, o_nil, POp.ev, Opd.ev, EOp.ev, env0, gu, gv, setD, resV, List.set, List.map, List.map_nil, List.map_cons, Option.map_none, Option.map_some, Option.some.injEq, exists_eq_left', pickV, binV, convV, load1V, max2V, min2V, nilchkV, unV, boolEq, isNilV, fadV, extV, slenV, ne_eq, not_true_eq_false, if_false, if_true, ite_true, ite_false, Bool.false_eq_true, Bool.true_eq_false, beq_true, beq_false, beq_self_eq_true, Bool.not_true, Bool.not_false, reduceCtorEq, List.getElem?_toArray, List.getElem?_cons_zero, List.getElem?_cons_succ, lenV]
      refine Test.split (fun hlt => ?_) (fun hlt => ?_)
      · have hlt' : i < N := by simp at hlt; omega
        refine s_skip1 ?_
        simp +decide only [p_seq_normal, p_seq_ret, p_seq_exit, p_block_normal, p_block_ret, p_block_exit, p_fin_ret, p_fin_normal, reduceIte, Nat.reduceEqDiff, resV, resOne, resL, gv, Option.some.injEq, exists_eq_left', Option.bind_some, Option.map_some, List.getD_cons_zero, List.getD_cons_succ]
        refine s_block ?_
        refine s_reg1 ?_
        simp only [o_cont, o_callT, callV_fn, o_pure, o_eff, o_callF, o_callN, o_guard, gk_tt, gk_ff, gk_tf, gk_ft, gk_u, t_op, t_alt, t_nil, o_nil, POp.ev, Opd.ev, EOp.ev, env0, gu, gv, setD, resV, List.set, List.map, List.map_nil, List.map_cons, Option.map_none, Option.map_some, Option.some.injEq, exists_eq_left', pickV, binV, convV, load1V, max2V, min2V, nilchkV, unV, boolEq, isNilV, fadV, extV, slenV, ne_eq, not_true_eq_false, if_false, if_true, ite_true, ite_false, Bool.false_eq_true, Bool.true_eq_false, beq_true, beq_false, beq_self_eq_true, Bool.not_true, Bool.not_false, reduceCtorEq, List.getElem?_toArray, List.getElem?_cons_zero, List.getElem?_cons_succ]
        refine (filler_ok _ _ (by omega)).mono ?_
        rintro _ H2 ⟨rfl, hx2⟩
        have hx3 := Ext.alloc H2 (tc filT)
        have hsl := sl_one H2 filT
        have hn3 : (H2.alloc (tc filT)).next = H2.next + 1 := rfl
        have hn2' := hx2.next
        replace hx2 := hx2.trans hx3
        simp only [o_cont, o_callT, callV_fn, o_pure, o_eff, o_callF, o_callN, o_guard, gk_tt, gk_ff, gk_tf, gk_ft, gk_u, t_op, t_alt, t_nil, o_nil, POp.ev, Opd.ev, EOp.ev, env0, gu, gv, setD, resV, List.set, List.map, List.map_nil, List.map_cons, Option.map_none, Option.map_some, Option.some.injEq, exists_eq_left', pickV, binV, convV, load1V, max2V, min2V, nilchkV, unV, boolEq, isNilV, fadV, extV, slenV, ne_eq, not_true_eq_false, if_false, if_true, ite_true, ite_false, Bool.false_eq_true, Bool.true_eq_false, beq_true, beq_false, beq_self_eq_true, Bool.not_true, Bool.not_false, reduceCtorEq, List.getElem?_toArray, List.getElem?_cons_zero, List.getElem?_cons_succ, bsliceT]
        generalize hq : H2.next = q at *
        generalize H2.alloc (tc filT) = H3 at hx2 hx3 hsl hn3 ⊢
        replace hv := Vec.ext hv hx2
        obtain ⟨cs, g1, g2⟩ := hv.put1 (lim := lim) (by omega) (x := .slice (some ⟨q, 0, some 0⟩) 1 1) rfl (show i < N by omega)
        rw [setApp (by simp; omega) (by omega)] at g2
        have i1 := Vec.iad hv .i64 (show i < N by omega)
        rw [Nat.mul_one] at i1
        simp only [o_cont, o_callT, callV_fn, o_pure, o_eff, o_callF, o_callN, o_guard, gk_tt, gk_ff, gk_tf, gk_ft, gk_u, t_op, t_alt, t_nil, o_nil, POp.ev, Opd.ev, EOp.ev, env0, gu, gv, setD, resV, List.set, List.map, List.map_nil, List.map_cons, Option.map_none, Option.map_some, Option.some.injEq, exists_eq_left', pickV, binV, convV, load1V, max2V, min2V, nilchkV, unV, boolEq, isNilV, fadV, extV, slenV, ne_eq, not_true_eq_false, if_false, if_true, ite_true, ite_false, Bool.false_eq_true, Bool.true_eq_false, beq_true, beq_false, beq_self_eq_true, Bool.not_true, Bool.not_false, reduceCtorEq, List.getElem?_toArray, List.getElem?_cons_zero, List.getElem?_cons_succ, i1, g1]
        simp +decide only [p_seq_normal, p_seq_ret, p_seq_exit, p_block_normal, p_block_ret, p_block_exit, p_fin_ret, p_fin_normal, reduceIte, Nat.reduceEqDiff, resV, resOne, resL, gv, Option.some.injEq, exists_eq_left', Option.bind_some, Option.map_some, List.getD_cons_zero, List.getD_cons_succ]
        refine s_reg1 ?_
        simp only [o_cont, o_callT, callV_fn, o_pure, o_eff, o_callF, o_callN, o_guard, gk_tt, gk_ff, gk_tf, gk_ft, gk_u, t_op, t_alt, t_nil, o_nil, POp.ev, Opd.ev, EOp.ev, env0, gu, gv, setD, resV, List.set, List.map, List.map_nil, List.map_cons, Option.map_none, Option.map_some, Option.some.injEq, exists_eq_left', pickV, binV, convV, load1V, max2V, min2V, nilchkV, unV, boolEq, isNilV, fadV, extV, slenV, ne_eq, not_true_eq_false, if_false, if_true, ite_true, ite_false, Bool.false_eq_true, Bool.true_eq_false, beq_true, beq_false, beq_self_eq_true, Bool.not_true, Bool.not_false, reduceCtorEq, List.getElem?_toArray, List.getElem?_cons_zero, List.getElem?_cons_succ, add1 (i := i) (by omega)]
        simp +decide only [p_seq_normal, p_seq_ret, p_seq_exit, p_block_normal, p_block_ret, p_block_exit, p_fin_ret, p_fin_normal, reduceIte, Nat.reduceEqDiff, resV, resOne, resL, gv, Option.some.injEq, exists_eq_left', Option.bind_some, Option.map_some, List.getD_cons_zero, List.getD_cons_succ]
        have hnn : (H3.put H.next cs).next = H3.next := rfl
        have keepF : ∀ f c, f = Value.slice (some ⟨c, 0, some 0⟩) 1 1 → H.next < c → SlT H3 f [filT] → SlT (H3.put H.next cs) f [filT] := by
          rintro f c rfl hc ⟨h0, a, cap, h1, h2, h3, h4, h5⟩
          refine ⟨h0, a, cap, h1, h2, h3, h4, fun hne => ?_⟩
          obtain ⟨b', o', sp', pre, post, e1, e2, e3⟩ := h5 hne
          subst e1
          cases h1
          exact ⟨_, _, _, pre, post, rfl, by rw [put_ne _ _ (by omega)]; exact e2, e3⟩
        refine Round.mk (k - 1) (by omega) ⟨i + 1, fs ++ [.slice (some ⟨q, 0, some 0⟩) 1 1], by omega, by omega, by simp; omega, by simpa using g2, fun hb c hc => by have := hltb hb c hc; omega, fun j p hp => ?_, fun f hf => ?_, Chg.ext (hx.trans hx2) (Chg.put _ _ _) (Nat.le_refl _), by omega, rfl⟩
        · obtain ⟨s', c', q1, q2, q3⟩ := hel j p hp
          have hm := hgt c' (List.mem_of_getElem? q2)
          exact ⟨s', c', q1, q2, (q3.ext hx2).chg (Chg.put _ _ _) (by omega)⟩
        · rcases List.mem_append.1 hf with h | h
          · obtain ⟨f1, c, f2, f3⟩ := hfil f h
            exact ⟨keepF f c f3 f2 (f1.ext hx2), c, f2, f3⟩
          · simp at h
            subst h
            exact ⟨keepF _ q rfl (by omega) hsl, q, by omega, rfl⟩
      · have hge : i = N := by simp at hlt; omega
        subst hge
        refine s_exit1 ?_
        simp +decide only [p_seq_normal, p_seq_ret, p_seq_exit, p_block_normal, p_block_ret, p_block_exit, p_fin_ret, p_fin_normal, reduceIte, Nat.reduceEqDiff, resV, resOne, resL, gv, Option.some.injEq, exists_eq_left', Option.bind_some, Option.map_some, List.getD_cons_zero, List.getD_cons_succ]
        refine s_reg ?_
        simp only [o_cont, o_callT, callV_fn, o_pure, o_eff, o_callF, o_callN, o_guard, gk_tt, gk_ff, gk_tf, gk_ft, gk_u, t_op, t_alt, t_nil, o_nil, POp.ev, Opd.ev, EOp.ev, env0, gu, gv, setD, resV, List.set, List.map, List.map_nil, List.map_cons, Option.map_none, Option.map_some, Option.some.injEq, exists_eq_left', pickV, binV, convV, load1V, max2V, min2V, nilchkV, unV, boolEq, isNilV, fadV, extV, slenV, ne_eq, not_true_eq_false, if_false, if_true, ite_true, ite_false, Bool.false_eq_true, Bool.true_eq_false, beq_true, beq_false, beq_self_eq_true, Bool.not_true, Bool.not_false, reduceCtorEq, List.getElem?_toArray, List.getElem?_cons_zero, List.getElem?_cons_succ, hs.lenV, slc_to .i64 (show ss.length ≤ i by omega)]
        refine s_ret1 ?_
        simp +decide only [p_seq_normal, p_seq_ret, p_seq_exit, p_block_normal, p_block_ret, p_block_exit, p_fin_ret, p_fin_normal, reduceIte, Nat.reduceEqDiff, resV, resOne, resL, gv, Option.some.injEq, exists_eq_left', Option.bind_some, Option.map_some, List.getD_cons_zero, List.getD_cons_succ]
        rw [Nat.sub_self, List.replicate_zero, List.append_nil] at hv
        refine ⟨.inr ⟨H.next, vs, fs, bs, by rw [hN], by rw [hN]; exact hv, hvl, hbl, ⟨Nat.le_refl _, by omega⟩, hnd, fun h => Nat.lt_irrefl _ (hgt _ h), fun hb c hc => ⟨Nat.le_of_lt (hgt c hc), hltb hb c hc⟩, hel, fun f hf => (hfil f hf).1⟩, hx⟩

theorem intactTermSS_ok (lim lo hi lo' hi' b b' : Nat) (vs fs vs' fs' : List Value) (bs bs' : List Nat) (s t : Value) (ss : List (List Tm)) (H : AHeap) (hs : LaidX H lo hi b vs fs bs s ss false) (ht : LaidX H lo' hi' b' vs' fs' bs' t ss false) (hn : ss.length ≤ 1000000) (hn2 : ∀ p ∈ ss, p.length ≤ 1000000) :
    ACalls Try.prog lim n_laws_intactTermSS [s, t] H fun v H' => v = .bool true ∧ Ext H H' := by
  have hls := hs.slss.lenV
  have hlt0 := ht.slss.lenV
  have hR := roomN_le ss.length
  have w1 := addN (i := ss.length) (j := roomN ss.length) (by omega)
  have hne : ((ss.length : Int) != (ss.length : Int)) = false := by simp
  refine is_laws_intactTermSS.go rfl ?_
  unfold c_laws_intactTermSS
  refine s_reg ?_
  simp only [o_cont, o_callT, callV_fn, o_pure, o_eff, o_callF, o_callN, o_guard, gk_tt, gk_ff, gk_tf, gk_ft, gk_u, t_op, t_alt, t_nil, o_nil, POp.ev, Opd.ev, EOp.ev, env0, gu, gv, setD, resV, List.set, List.map, List.map_nil, List.map_cons, Option.map_none, Option.map_some, Option.some.injEq, exists_eq_left', pickV, binV, convV, load1V, max2V, min2V, nilchkV, unV, boolEq, isNilV, fadV, extV, slenV, ne_eq, not_true_eq_false, if_false, if_true, ite_true, ite_false, Bool.false_eq_true, Bool.true_eq_false, beq_true, beq_false, beq_self_eq_true, Bool.not_true, Bool.not_false, reduceCtorEq, List.getElem?_toArray, List.getElem?_cons_zero, List.getElem?_cons_succ]
  refine s_reg ?_
  simp only [o_cont, o_callT, callV_fn, o_pure, o_eff, o_callF, o_callN, o_guard, gk_tt, gk_ff, gk_tf, gk_ft, gk_u, t_op, t_alt, t_nil, o_nil, POp.ev, Opd.ev, EOp.ev, env0, gu, gv, setD, resV, List.set, List.map, List.map_nil, List.map_cons, Option.map_none, Option.map_some, Option.some.injEq, exists_eq_left', pickV, binV, convV, load1V, max2V, min2V, nilchkV, unV, boolEq, isNilV, fadV, extV, slenV, ne_eq, not_true_eq_false, if_false, if_true, ite_true, ite_false, Bool.false_eq_true, Bool.true_eq_false, beq_true, beq_false, beq_self_eq_true, Bool.not_true, Bool.not_false, reduceCtorEq, List.getElem?_toArray, List.getElem?_cons_zero, List.getElem?_cons_succ, hlt0]
  refine (roomBehind_ok _ _ _).eq ?_
  simp only [o_cont, o_callT, callV_fn, o_pure, o_eff, o_callF, o_callN, o_guard, gk_tt, gk_ff, gk_tf, gk_ft, gk_u, t_op, t_alt, t_nil, o_nil, POp.ev, Opd.ev, EOp.ev, env0, gu, gv, setD, resV, List.set, List.map, List.map_nil, List.map_cons, Option.map_none, Option.map_some, Option.some.injEq, exists_eq_left', pickV, binV, convV, load1V, max2V, min2V, nilchkV, unV, boolEq, isNilV, fadV, extV, slenV, ne_eq, not_true_eq_false, if_false, if_true, ite_true, ite_false, Bool.false_eq_true, Bool.true_eq_false, beq_true, beq_false, beq_self_eq_true, Bool.not_true, Bool.not_false, reduceCtorEq, List.getElem?_toArray, List.getElem?_cons_zero, List.getElem?_cons_succ, w1]
  refine s_test ?_
  simp only [o_cont, o_callT, callV_fn, o_pure, o_eff, o_callF, o_callN, o_guard, gk_tt, gk_ff, gk_tf, gk_ft, gk_u, t_op, t_alt, t_nil, o_nil, POp.ev, Opd.ev, EOp.ev, env0, gu, gv, setD, resV, List.set, List.map, List.map_nil, List.map_cons, Option.map_none, Option.map_some, Option.some.injEq, exists_eq_left', pickV, binV, convV, load1V, max2V, min2V, nilchkV, unV, boolEq, isNilV, fadV, extV, slenV, ne_eq, not_true_eq_false, if_false, if_true, ite_true, ite_false, Bool.false_eq_true, Bool.true_eq_false, beq_true, beq_false, beq_self_eq_true, Bool.not_true, Bool.not_false, reduceCtorEq, List.getElem?_toArray, List.getElem?_cons_zero, List.getElem?_cons_succ, hls, hlt0, hne]
  refine Test.false_ (s_skip1 ?_)
  simp +decide only [p_seq_normal, p_seq_ret, p_seq_exit, p_block_normal, p_block_ret, p_block_exit, p_fin_ret, p_fin_normal, reduceIte, Nat.reduceEqDiff, resV, resOne, resL, gv, Option.some.injEq, exists_eq_left', Option.bind_some, Option.map_some, List.getD_cons_zero, List.getD_cons_succ]
  refine s_assoc (s_reg ?_)
  simp only [o_cont, o_callT, callV_fn, o_pure, o_eff, o_callF, o_callN, o_guard, gk_tt, gk_ff, gk_tf, gk_ft, gk_u, t_op, t_alt, t_nil, o_nil, POp.ev, Opd.ev, EOp.ev, env0, gu, gv, setD, resV, List.set, List.map, List.map_nil, List.map_cons, Option.map_none, Option.map_some, Option.some.injEq, exists_eq_left', pickV, binV, convV, load1V, max2V, min2V, nilchkV, unV, boolEq, isNilV, fadV, extV, slenV, ne_eq, not_true_eq_false, if_false, if_true, ite_true, ite_false, Bool.false_eq_true, Bool.true_eq_false, beq_true, beq_false, beq_self_eq_true, Bool.not_true, Bool.not_false, reduceCtorEq, List.getElem?_toArray, List.getElem?_cons_zero, List.getElem?_cons_succ]
  refine s_block ?_
  refine s_loop1 (fun k e' H' => ∃ i, i + k = ss.length ∧ Ext H H' ∧ e' = [s, t, .bool false, .int .i64 ((ss.length + roomN ss.length : Nat) : Int), .int .i64 i]) ss.length ⟨0, by omega, Ext.refl _, rfl⟩ ?_
  rintro k e' H' ⟨i, hik, hx, rfl⟩
  have hs' := hs.ext hx
  have ht' := ht.ext hx
  refine s_test ?_
  simp only [o_cont, o_callT, callV_fn, o_pure, o_eff, o_callF, o_callN, o_guard, gk_tt, gk_ff, gk_tf, gk_ft, gk_u, t_op, t_alt, t_nil, o_nil, POp.ev, Opd.ev, EOp.ev, env0, gu, gv, setD, resV, List.set, List.map, List.map_nil, List.map_cons, Option.map_none, Option.map_some, Option.some.injEq, exists_eq_left', pickV, binV, convV, load1V, max2V, min2V, nilchkV, unV, boolEq, isNilV, fadV, extV, slenV, ne_eq, not_true_eq_false, if_false, if_true, ite_true, ite_false, Bool.false_eq_true, Bool.true_eq_false, beq_true, beq_false, beq_self_eq_true, Bool.not_true, Bool.not_false, reduceCtorEq, List.getElem?_toArray, List.getElem?_cons_zero, List.getElem?_cons_succ, hlt0]
  refine Test.split (fun hlt => ?_) (fun hlt => ?_)
  · have hlt' : i < ss.length := by simpa using hlt
    obtain ⟨s1, c1, g1, g2, g3⟩ := hs'.el i _ (List.getElem?_eq_getElem hlt')
    obtain ⟨s2, c2, k1, k2, k3⟩ := ht'.el i _ (List.getElem?_eq_getElem hlt')
    have g4 : LaidT H' c1 s1 ss[i] := by
      rcases g3 with ⟨h, _⟩ | h
      · cases h
      · exact h
    have k4 : LaidT H' c2 s2 ss[i] := by
      rcases k3 with ⟨h, _⟩ | h
      · cases h
      · exact h
    have a1 := Vec.iad hs'.short .i64 hlt'
    have a2 := Vec.iad ht'.short .i64 hlt'
    rw [Nat.mul_one] at a1 a2
    have l1 := Vec.cell hs'.short g1
    have l2 := Vec.cell ht'.short k1
    refine s_skip1 ?_
    simp +decide only [p_seq_normal, p_seq_ret, p_seq_exit, p_block_normal, p_block_ret, p_block_exit, p_fin_ret, p_fin_normal, reduceIte, Nat.reduceEqDiff, resV, resOne, resL, gv, Option.some.injEq, exists_eq_left', Option.bind_some, Option.map_some, List.getD_cons_zero, List.getD_cons_succ]
    refine s_block ?_
    refine s_test1 ?_
    simp only [o_cont, o_callT, callV_fn, o_pure, o_eff, o_callF, o_callN, o_guard, gk_tt, gk_ff, gk_tf, gk_ft, gk_u, t_op, t_alt, t_nil, o_nil, POp.ev, Opd.ev, EOp.ev, env0, gu, gv, setD, resV, List.set, List.map, List.map_nil, List.map_cons, Option.map_none, Option.map_some, Option.some.injEq, exists_eq_left', pickV, binV, convV, load1V, max2V, min2V, nilchkV, unV, boolEq, isNilV, fadV, extV, slenV, ne_eq, not_true_eq_false, if_false, if_true, ite_true, ite_false, Bool.false_eq_true, Bool.true_eq_false, beq_true, beq_false, beq_self_eq_true, Bool.not_true, Bool.not_false, reduceCtorEq, List.getElem?_toArray, List.getElem?_cons_zero, List.getElem?_cons_succ, a1, l1, a2, l2]
    refine (intactTermS_ok _ _ _ _ _ _ _ g4 k4 (hn2 _ (List.getElem_mem hlt'))).mono ?_
    rintro _ H2 ⟨rfl, hx2⟩
    simp only [o_cont, o_callT, callV_fn, o_pure, o_eff, o_callF, o_callN, o_guard, gk_tt, gk_ff, gk_tf, gk_ft, gk_u, t_op, t_alt, t_nil, o_nil, POp.ev, Opd.ev, EOp.ev, env0, gu, gv, setD, resV, List.set, List.map, List.map_nil, List.map_cons, Option.map_none, Option.map_some, Option.some.injEq, exists_eq_left', pickV, binV, convV, load1V, max2V, min2V, nilchkV, unV, boolEq, isNilV, fadV, extV, slenV, ne_eq, not_true_eq_false, if_false, if_true, ite_true, ite_false, Bool.false_eq_true, Bool.true_eq_false, beq_true, beq_false, beq_self_eq_true, Bool.not_true, Bool.not_false, reduceCtorEq, List.getElem?_toArray, List.getElem?_cons_zero, List.getElem?_cons_succ]
    refine Test.false_ (s_skip1 ?_)
    simp +decide only [p_seq_normal, p_seq_ret, p_seq_exit, p_block_normal, p_block_ret, p_block_exit, p_fin_ret, p_fin_normal, reduceIte, Nat.reduceEqDiff, resV, resOne, resL, gv, Option.some.injEq, exists_eq_left', Option.bind_some, Option.map_some, List.getD_cons_zero, List.getD_cons_succ]
    refine s_reg1 ?_
    simp only [o_cont, o_callT, callV_fn, o_pure, o_eff, o_callF, o_callN, o_guard, gk_tt, gk_ff, gk_tf, gk_ft, gk_u, t_op, t_alt, t_nil, o_nil, POp.ev, Opd.ev, EOp.ev, env0, gu, gv, setD, resV, List.set, List.map, List.map_nil, List.map_cons, Option.map_none, Option.map_some, Option.some.injEq, exists_eq_left', pickV, binV, convV, load1V, max2V, min2V, nilchkV, unV, boolEq, isNilV, fadV, extV, slenV, ne_eq, not_true_eq_false, if_false, if_true, ite_true, ite_false, Bool.false_eq_true, Bool.true_eq_false, beq_true, beq_false, beq_self_eq_true, Bool.not_true, Bool.not_false, reduceCtorEq, List.getElem?_toArray, List.getElem?_cons_zero, List.getElem?_cons_succ, add1 (i := i) (by omega)]
    simp +decide only [p_seq_normal, p_seq_ret, p_seq_exit, p_block_normal, p_block_ret, p_block_exit, p_fin_ret, p_fin_normal, reduceIte, Nat.reduceEqDiff, resV, resOne, resL, gv, Option.some.injEq, exists_eq_left', Option.bind_some, Option.map_some, List.getD_cons_zero, List.getD_cons_succ]
    exact Round.mk (k - 1) (by omega) ⟨i + 1, by omega, hx.trans hx2, rfl⟩
  · refine s_exit1 ?_
    simp +decide only [p_seq_normal, p_seq_ret, p_seq_exit, p_block_normal, p_block_ret, p_block_exit, p_fin_ret, p_fin_normal, reduceIte, Nat.reduceEqDiff, resV, resOne, resL, gv, Option.some.injEq, exists_eq_left', Option.bind_some, Option.map_some, List.getD_cons_zero, List.getD_cons_succ]
    have part : ∀ {lo hi b : Nat} {vs fs : List Value} {bs : List Nat} {v : Value}, LaidX H' lo hi b vs fs bs v ss false → ∃ u, slcV 1 v (some (.int .i64 ss.length)) (some (.int .i64 ((ss.length + roomN ss.length : Nat) : Int))) none = some u ∧ SlSS H' u (List.replicate (roomN ss.length) [filT]) := by
      intro lo hi b vs fs bs v h
      obtain ⟨rfl, hv, hvl, _, _, _, _, _, _, hf⟩ := h
      obtain ⟨u, u1, u2⟩ := hv.sl.slc (i := ss.length) (j := ss.length + roomN ss.length) (lo := some (.int .i64 ss.length)) (hi := some (.int .i64 ((ss.length + roomN ss.length : Nat) : Int))) (by omega) (Nat.le_refl _) (.inr ⟨.i64, rfl⟩) (.inr ⟨.i64, rfl⟩)
      have hfl : fs.length = roomN ss.length := by
        have := hv.clen
        rw [List.length_append] at this
        omega
      refine ⟨u, by rw [← u1]; rfl, fs, ?_, fun i p hp => ?_⟩
      · have e : ss.length + roomN ss.length - ss.length = roomN ss.length := by omega
        rw [e, Nat.mul_one, Nat.mul_one, List.drop_append, List.drop_of_length_le (by omega), List.nil_append, hvl, Nat.sub_self, List.drop_zero, List.take_of_length_le (by omega)] at u2
        simpa using u2
      · rw [List.getElem?_replicate] at hp
        split at hp
        · rename_i hi
          cases hp
          exact ⟨fs[i]'(by omega), List.getElem?_eq_getElem (by omega), hf _ (List.getElem_mem _)⟩
        · cases hp
    obtain ⟨u1, p1, p2⟩ := part hs'
    obtain ⟨u2, q1, q2⟩ := part ht'
    refine s_reg ?_
    simp only [o_cont, o_callT, callV_fn, o_pure, o_eff, o_callF, o_callN, o_guard, gk_tt, gk_ff, gk_tf, gk_ft, gk_u, t_op, t_alt, t_nil, o_nil, POp.ev, Opd.ev, EOp.ev, env0, gu, gv, setD, resV, List.set, List.map, List.map_nil, List.map_cons, Option.map_none, Option.map_some, Option.some.injEq, exists_eq_left', pickV, binV, convV, load1V, max2V, min2V, nilchkV, unV, boolEq, isNilV, fadV, extV, slenV, ne_eq, not_true_eq_false, if_false, if_true, ite_true, ite_false, Bool.false_eq_true, Bool.true_eq_false, beq_true, beq_false, beq_self_eq_true, Bool.not_true, Bool.not_false, reduceCtorEq, List.getElem?_toArray, List.getElem?_cons_zero, List.getElem?_cons_succ, hlt0, p1, q1]
    refine (eqTermSS_ok _ _ _ _ _ p2 q2 (by simp; omega) (by intro p hp; simp at hp; simp [hp.2])).mono ?_
    rintro _ H2 ⟨rfl, hx2⟩
    simp only [o_cont, o_callT, callV_fn, o_pure, o_eff, o_callF, o_callN, o_guard, gk_tt, gk_ff, gk_tf, gk_ft, gk_u, t_op, t_alt, t_nil, o_nil, POp.ev, Opd.ev, EOp.ev, env0, gu, gv, setD, resV, List.set, List.map, List.map_nil, List.map_cons, Option.map_none, Option.map_some, Option.some.injEq, exists_eq_left', pickV, binV, convV, load1V, max2V, min2V, nilchkV, unV, boolEq, isNilV, fadV, extV, slenV, ne_eq, not_true_eq_false, if_false, if_true, ite_true, ite_false, Bool.false_eq_true, Bool.true_eq_false, beq_true, beq_false, beq_self_eq_true, Bool.not_true, Bool.not_false, reduceCtorEq, List.getElem?_toArray, List.getElem?_cons_zero, List.getElem?_cons_succ]
    refine s_ret1 ?_
    simp +decide only [p_seq_normal, p_seq_ret, p_seq_exit, p_block_normal, p_block_ret, p_block_exit, p_fin_ret, p_fin_normal, reduceIte, Nat.reduceEqDiff, resV, resOne, resL, gv, Option.some.injEq, exists_eq_left', Option.bind_some, Option.map_some, List.getD_cons_zero, List.getD_cons_succ]
    exact ⟨trivial, hx.trans hx2⟩
end Go.Proofs.Ytaimceodhhgnnaa
