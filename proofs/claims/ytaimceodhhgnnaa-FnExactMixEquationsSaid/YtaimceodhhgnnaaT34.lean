/- MixEquations: the walk of the implementation's side; no condition beyond stated lengths. -/
import Derived.Test.YtaimceodhhgnnaaT33
namespace Go.Proofs.Ytaimceodhhgnnaa
open Go.Ab
set_option linter.unusedSimpArgs false
set_option linter.unusedVariables false

theorem fill2 {a b z1 z2 : Value} (ha : cellsV a = some [a]) (hb : cellsV b = some [b]) : fillV [z1, z2] [(0, 1, a), (1, 1, b)] = some [a, b] := by
  simp [fillV, ha, hb, putL]
theorem bslice2 (H : AHeap) {a b z1 z2 : Value} (ha : cellsV a = some [a]) (hb : cellsV b = some [b]) : bsliceH H 2 [z1, z2] [(0, 1, a), (1, 1, b)] = some (.slice (some ⟨H.next, 0, some 0⟩) 2 2, H.alloc [a, b]) := by
  simp [bsliceH, fill2 ha hb]
theorem slss_two {H : AHeap} {a b : Value} {p q : List Tm} (ha : SlT H a p) (hb : SlT H b q) : SlSS (H.alloc [a, b]) (.slice (some ⟨H.next, 0, some 0⟩) 2 2) [p, q] := by
  have hx := Ext.alloc H [a, b]
  refine ⟨[a, b], Vec.sl (Vec.lit (H := H) (n := 2) (sz := 1) (cells := [a, b]) rfl), fun i r hr => ?_⟩
  match i, hr with
  | 0, hr => simp at hr; subst hr; exact ⟨a, rfl, ha.ext hx⟩
  | 1, hr => simp at hr; subst hr; exact ⟨b, rfl, hb.ext hx⟩
/-- an element of a list of lists, put anew -/
theorem OwnX.setE {lim lo hi : Nat} {H : AHeap} {b : Nat} {vs : List Value} {bs : List Nat} {v s : Value} {ss : List (List Tm)} {p : List Tm} {c i : Nat} (h : OwnX H lo hi b vs bs v ss) (hl : lim ≤ lo) (hi' : i < ss.length) (hc1 : hi ≤ c) (hc2 : c < H.next) (hp : VecT H c s p) :
    ∃ H', iadV 1 v (.int .i64 i) = some (.pointer (some ⟨b, i, none⟩)) ∧ storeH lim H 1 (.pointer (some ⟨b, i, none⟩)) s = some (undef, H') ∧ OwnX H' lo H'.next b (vs.set i s) (bs.set i c) v (ss.set i p) ∧ Chg b H H' ∧ H'.next = H.next := by
  obtain ⟨h1, h2, h3, h4, h5, h6, h7⟩ := h
  have i1 := Vec.iad h1 .i64 hi'
  rw [Nat.mul_one] at i1
  obtain ⟨cs, t1, v5⟩ := h1.put1 (lim := lim) (by omega) (Vec.cellsV hp) hi'
  have hch := Chg.put b H cs
  have hvl := h1.clen
  have hbs : ∀ x ∈ bs.set i c, x = c ∨ x ∈ bs := by
    intro x hx
    rcases List.mem_or_eq_of_mem_set hx with hx | hx
    · exact .inr hx
    · exact .inl hx
  have hne : ∀ x ∈ bs, x ≠ c := fun x hx e => by have := h6 x hx; omega
  refine ⟨_, i1, t1, ⟨?_, by simp [h2], ⟨h3.1, by show b < H.next; omega⟩, ?_, ?_, ?_, ?_⟩, hch, rfl⟩
  · rw [List.length_set]; exact v5
  · have h4' := List.pairwise_iff_getElem.1 h4
    refine List.pairwise_iff_getElem.2 (fun j1 j2 hj1 hj2 hlt e => ?_)
    rw [List.length_set] at hj1 hj2
    rw [List.getElem_set, List.getElem_set] at e
    by_cases e1 : i = j1
    · have e2 : ¬ i = j2 := by omega
      rw [if_pos e1, if_neg e2] at e
      exact hne _ (List.getElem_mem hj2) e.symm
    · by_cases e2 : i = j2
      · rw [if_neg e1, if_pos e2] at e
        exact hne _ (List.getElem_mem hj1) e
      · rw [if_neg e1, if_neg e2] at e
        exact h4' j1 j2 hj1 hj2 hlt e
  · intro hm
    rcases hbs b hm with e | e
    · omega
    · exact h5 e
  · intro x hx
    rcases hbs x hx with rfl | hx
    · exact ⟨by omega, hc2⟩
    · have := h6 x hx
      exact ⟨this.1, by show x < H.next; omega⟩
  · intro j q hq
    rw [List.getElem?_set] at hq
    by_cases e : i = j
    · subst e
      rw [if_pos rfl, if_pos hi'] at hq
      cases hq
      refine ⟨s, c, by rw [List.getElem?_set, if_pos rfl, if_pos (by omega)], by rw [List.getElem?_set, if_pos rfl, if_pos (by omega)], VecT.chg hp hch (by omega)⟩
    · rw [if_neg e] at hq
      obtain ⟨s', c', m1, m2, m3⟩ := h7 j q hq
      refine ⟨s', c', by rw [List.getElem?_set, if_neg e]; exact m1, by rw [List.getElem?_set, if_neg e]; exact m2, VecT.chg m3 hch (fun e2 => h5 (e2 ▸ List.mem_of_getElem? m2))⟩

theorem iMix_ok (lim : Nat) (s : Value) (ss : List (List Tm)) (i k n : Int) (H : AHeap) (hl : lim ≤ H.next) (hs : SlSS H s ss) (hn : ss.length ≤ 1000000) (hn2 : ∀ p ∈ ss, p.length ≤ 1000000) :
    ACalls Try.prog lim n_impl_MixEquations [s, .int .i64 i, .int .i64 k, .int .i64 n] H fun v H' => ResSS H' H.next v (mixR ss i k n) ∧ Ext H H' := by
  refine is_impl_MixEquations.go rfl ?_
  unfold c_impl_MixEquations
  have hsub : IntKind.i64.wrap ((ss.length : Int) - 1) = (ss.length : Int) - 1 := by rw [IntKind.wrap_i64]; omega
  refine s_reg ?_
  simp only [o_cont, o_callT, callV_fn, o_pure, o_eff, o_callF, o_callN, o_guard, gk_tt, gk_ff, gk_tf, gk_ft, gk_u, t_op, t_alt, t_nil, o_nil, POp.ev, Opd.ev, EOp.ev, env0, gu, gv, setD, resV, List.set, List.map, List.map_nil, List.map_cons, Option.map_none, Option.map_some, Option.some.injEq, exists_eq_left', pickV, binV, convV, load1V, max2V, min2V, nilchkV, unV, boolEq, isNilV, fadV, extV, slenV, ne_eq, not_true_eq_false, if_false, if_true, ite_true, ite_false, Bool.false_eq_true, Bool.true_eq_false, beq_true, beq_false, beq_self_eq_true, Bool.not_true, Bool.not_false, reduceCtorEq, List.getElem?_toArray, List.getElem?_cons_zero, List.getElem?_cons_succ]
  refine s_test_I (!mixA ss i k n) (Ext H) ?_ (fun H1 hx hg => ?_) (fun H1 hx hg => ?_)
  · simp only [o_cont, o_callT, callV_fn, o_pure, o_eff, o_callF, o_callN, o_guard, gk_tt, gk_ff, gk_tf, gk_ft, gk_u, t_op, t_alt, t_nil, o_nil, POp.ev, Opd.ev, EOp.ev, env0, gu, gv, setD, resV, List.set, List.map, List.map_nil, List.map_cons, Option.map_none, Option.map_some, Option.some.injEq, exists_eq_left', pickV, binV, convV, load1V, max2V, min2V, nilchkV, unV, boolEq, isNilV, fadV, extV, slenV, ne_eq, not_true_eq_false, if_false, if_true, ite_true, ite_false, Bool.false_eq_true, Bool.true_eq_false, beq_true, beq_false, beq_self_eq_true, Bool.not_true, Bool.not_false, reduceCtorEq, List.getElem?_toArray, List.getElem?_cons_zero, List.getElem?_cons_succ]
    refine (isSystem_ok lim _ _ _ hl hs hn hn2).mono ?_
    rintro _ H1 ⟨rfl, hx⟩
    unfold mixA inU
    cases hg : goodSS ss
    · simp only [o_cont, o_callT, callV_fn, o_pure, o_eff, o_callF, o_callN, o_guard, gk_tt, gk_ff, gk_tf, gk_ft, gk_u, t_op, t_alt, t_nil, o_nil, POp.ev, Opd.ev, EOp.ev, env0, gu, gv, setD, resV, List.set, List.map, List.map_nil, List.map_cons, Option.map_none, Option.map_some, Option.some.injEq, exists_eq_left', pickV, binV, convV, load1V, max2V, min2V, nilchkV, unV, boolEq, isNilV, fadV, extV, slenV, ne_eq, not_true_eq_false, if_false, if_true, ite_true, ite_false, Bool.false_eq_true, Bool.true_eq_false, beq_true, beq_false, beq_self_eq_true, Bool.not_true, Bool.not_false, reduceCtorEq, List.getElem?_toArray, List.getElem?_cons_zero, List.getElem?_cons_succ]
      simp [hx]
    · simp only [o_cont, o_callT, callV_fn, o_pure, o_eff, o_callF, o_callN, o_guard, gk_tt, gk_ff, gk_tf, gk_ft, gk_u, t_op, t_alt, t_nil, o_nil, POp.ev, Opd.ev, EOp.ev, env0, gu, gv, setD, resV, List.set, List.map, List.map_nil, List.map_cons, Option.map_none, Option.map_some, Option.some.injEq, exists_eq_left', pickV, binV, convV, load1V, max2V, min2V, nilchkV, unV, boolEq, isNilV, fadV, extV, slenV, ne_eq, not_true_eq_false, if_false, if_true, ite_true, ite_false, Bool.false_eq_true, Bool.true_eq_false, beq_true, beq_false, beq_self_eq_true, Bool.not_true, Bool.not_false, reduceCtorEq, List.getElem?_toArray, List.getElem?_cons_zero, List.getElem?_cons_succ, hs.lenV, hsub]
      refine (inside_ok _ _ _ _ _).eq ?_
      cases h1 : decide (0 ≤ i) && decide (i ≤ (ss.length : Int) - 1)
      · simp only [o_cont, o_callT, callV_fn, o_pure, o_eff, o_callF, o_callN, o_guard, gk_tt, gk_ff, gk_tf, gk_ft, gk_u, t_op, t_alt, t_nil, o_nil, POp.ev, Opd.ev, EOp.ev, env0, gu, gv, setD, resV, List.set, List.map, List.map_nil, List.map_cons, Option.map_none, Option.map_some, Option.some.injEq, exists_eq_left', pickV, binV, convV, load1V, max2V, min2V, nilchkV, unV, boolEq, isNilV, fadV, extV, slenV, ne_eq, not_true_eq_false, if_false, if_true, ite_true, ite_false, Bool.false_eq_true, Bool.true_eq_false, beq_true, beq_false, beq_self_eq_true, Bool.not_true, Bool.not_false, reduceCtorEq, List.getElem?_toArray, List.getElem?_cons_zero, List.getElem?_cons_succ]
        simp [hx]
      · simp only [o_cont, o_callT, callV_fn, o_pure, o_eff, o_callF, o_callN, o_guard, gk_tt, gk_ff, gk_tf, gk_ft, gk_u, t_op, t_alt, t_nil, o_nil, POp.ev, Opd.ev, EOp.ev, env0, gu, gv, setD, resV, List.set, List.map, List.map_nil, List.map_cons, Option.map_none, Option.map_some, Option.some.injEq, exists_eq_left', pickV, binV, convV, load1V, max2V, min2V, nilchkV, unV, boolEq, isNilV, fadV, extV, slenV, ne_eq, not_true_eq_false, if_false, if_true, ite_true, ite_false, Bool.false_eq_true, Bool.true_eq_false, beq_true, beq_false, beq_self_eq_true, Bool.not_true, Bool.not_false, reduceCtorEq, List.getElem?_toArray, List.getElem?_cons_zero, List.getElem?_cons_succ, hs.lenV, hsub]
        refine (inside_ok _ _ _ _ _).eq ?_
        cases h2 : decide (0 ≤ k) && decide (k ≤ (ss.length : Int) - 1)
        · simp only [o_cont, o_callT, callV_fn, o_pure, o_eff, o_callF, o_callN, o_guard, gk_tt, gk_ff, gk_tf, gk_ft, gk_u, t_op, t_alt, t_nil, o_nil, POp.ev, Opd.ev, EOp.ev, env0, gu, gv, setD, resV, List.set, List.map, List.map_nil, List.map_cons, Option.map_none, Option.map_some, Option.some.injEq, exists_eq_left', pickV, binV, convV, load1V, max2V, min2V, nilchkV, unV, boolEq, isNilV, fadV, extV, slenV, ne_eq, not_true_eq_false, if_false, if_true, ite_true, ite_false, Bool.false_eq_true, Bool.true_eq_false, beq_true, beq_false, beq_self_eq_true, Bool.not_true, Bool.not_false, reduceCtorEq, List.getElem?_toArray, List.getElem?_cons_zero, List.getElem?_cons_succ]
          simp [hx]
        · simp only [o_cont, o_callT, callV_fn, o_pure, o_eff, o_callF, o_callN, o_guard, gk_tt, gk_ff, gk_tf, gk_ft, gk_u, t_op, t_alt, t_nil, o_nil, POp.ev, Opd.ev, EOp.ev, env0, gu, gv, setD, resV, List.set, List.map, List.map_nil, List.map_cons, Option.map_none, Option.map_some, Option.some.injEq, exists_eq_left', pickV, binV, convV, load1V, max2V, min2V, nilchkV, unV, boolEq, isNilV, fadV, extV, slenV, ne_eq, not_true_eq_false, if_false, if_true, ite_true, ite_false, Bool.false_eq_true, Bool.true_eq_false, beq_true, beq_false, beq_self_eq_true, Bool.not_true, Bool.not_false, reduceCtorEq, List.getElem?_toArray, List.getElem?_cons_zero, List.getElem?_cons_succ]
          cases hik : (i == k)
          · simp only [o_cont, o_callT, callV_fn, o_pure, o_eff, o_callF, o_callN, o_guard, gk_tt, gk_ff, gk_tf, gk_ft, gk_u, t_op, t_alt, t_nil, o_nil, POp.ev, Opd.ev, EOp.ev, env0, gu, gv, setD, resV, List.set, List.map, List.map_nil, List.map_cons, Option.map_none, Option.map_some, Option.some.injEq, exists_eq_left', pickV, binV, convV, load1V, max2V, min2V, nilchkV, unV, boolEq, isNilV, fadV, extV, slenV, ne_eq, not_true_eq_false, if_false, if_true, ite_true, ite_false, Bool.false_eq_true, Bool.true_eq_false, beq_true, beq_false, beq_self_eq_true, Bool.not_true, Bool.not_false, reduceCtorEq, List.getElem?_toArray, List.getElem?_cons_zero, List.getElem?_cons_succ]
            refine (inside_ok _ _ _ _ _).eq ?_
            simp only [o_cont, o_callT, callV_fn, o_pure, o_eff, o_callF, o_callN, o_guard, gk_tt, gk_ff, gk_tf, gk_ft, gk_u, t_op, t_alt, t_nil, o_nil, POp.ev, Opd.ev, EOp.ev, env0, gu, gv, setD, resV, List.set, List.map, List.map_nil, List.map_cons, Option.map_none, Option.map_some, Option.some.injEq, exists_eq_left', pickV, binV, convV, load1V, max2V, min2V, nilchkV, unV, boolEq, isNilV, fadV, extV, slenV, ne_eq, not_true_eq_false, if_false, if_true, ite_true, ite_false, Bool.false_eq_true, Bool.true_eq_false, beq_true, beq_false, beq_self_eq_true, Bool.not_true, Bool.not_false, reduceCtorEq, List.getElem?_toArray, List.getElem?_cons_zero, List.getElem?_cons_succ]
            simp [hx]
          · simp only [o_cont, o_callT, callV_fn, o_pure, o_eff, o_callF, o_callN, o_guard, gk_tt, gk_ff, gk_tf, gk_ft, gk_u, t_op, t_alt, t_nil, o_nil, POp.ev, Opd.ev, EOp.ev, env0, gu, gv, setD, resV, List.set, List.map, List.map_nil, List.map_cons, Option.map_none, Option.map_some, Option.some.injEq, exists_eq_left', pickV, binV, convV, load1V, max2V, min2V, nilchkV, unV, boolEq, isNilV, fadV, extV, slenV, ne_eq, not_true_eq_false, if_false, if_true, ite_true, ite_false, Bool.false_eq_true, Bool.true_eq_false, beq_true, beq_false, beq_self_eq_true, Bool.not_true, Bool.not_false, reduceCtorEq, List.getElem?_toArray, List.getElem?_cons_zero, List.getElem?_cons_succ]
            simp [hx]
  · simp only [Bool.not_eq_true'] at hg
    refine s_reg ?_
    simp only [o_cont, o_callT, callV_fn, o_pure, o_eff, o_callF, o_callN, o_guard, gk_tt, gk_ff, gk_tf, gk_ft, gk_u, t_op, t_alt, t_nil, o_nil, POp.ev, Opd.ev, EOp.ev, env0, gu, gv, setD, resV, List.set, List.map, List.map_nil, List.map_cons, Option.map_none, Option.map_some, Option.some.injEq, exists_eq_left', pickV, binV, convV, load1V, max2V, min2V, nilchkV, unV, boolEq, isNilV, fadV, extV, slenV, ne_eq, not_true_eq_false, if_false, if_true, ite_true, ite_false, Bool.false_eq_true, Bool.true_eq_false, beq_true, beq_false, beq_self_eq_true, Bool.not_true, Bool.not_false, reduceCtorEq, List.getElem?_toArray, List.getElem?_cons_zero, List.getElem?_cons_succ]
    refine s_ret1 ?_
    simp +decide only [p_seq_normal, p_seq_ret, p_seq_exit, p_block_normal, p_block_ret, p_block_exit, p_fin_ret, p_fin_normal, reduceIte, Nat.reduceEqDiff, resV, resOne, resL, gv, Option.some.injEq, exists_eq_left', Option.bind_some, Option.map_some, List.getD_cons_zero, List.getD_cons_succ]
    refine ⟨⟨.slice none 0 0, ?_, ?_⟩, hx⟩
    · simp [mixR, hg]
    · simp [mixR, hg]
      exact .inl ⟨rfl, rfl⟩
  · simp only [Bool.not_eq_false'] at hg
    have hgi := hg
    simp only [mixA, inU, Bool.and_eq_true, decide_eq_true_eq, Bool.not_eq_true', beq_eq_false_iff_ne] at hgi
    obtain ⟨⟨⟨⟨hgd, hi1, hi2⟩, hk1, hk2⟩, hik⟩, hn1, hn100⟩ := hgi
    obtain ⟨i, rfl⟩ : ∃ n : Nat, i = n := ⟨i.toNat, by omega⟩
    obtain ⟨k, rfl⟩ : ∃ n : Nat, k = n := ⟨k.toNat, by omega⟩
    have hiL : i < ss.length := by omega
    have hkL : k < ss.length := by omega
    obtain ⟨_, hl3, hall⟩ := goodSS_all hgd
    have hp20 := hall _ (List.getElem_mem hiL)
    have hq20 := hall _ (List.getElem_mem hkL)
    have hnx := hx.next
    refine s_skip1 ?_
    simp +decide only [p_seq_normal, p_seq_ret, p_seq_exit, p_block_normal, p_block_ret, p_block_exit, p_fin_ret, p_fin_normal, reduceIte, Nat.reduceEqDiff, resV, resOne, resL, gv, Option.some.injEq, exists_eq_left', Option.bind_some, Option.map_some, List.getD_cons_zero, List.getD_cons_succ]
    refine s_reg ?_
    simp only [o_cont, o_callT, callV_fn, o_pure, o_eff, o_callF, o_callN, o_guard, gk_tt, gk_ff, gk_tf, gk_ft, gk_u, t_op, t_alt, t_nil, o_nil, POp.ev, Opd.ev, EOp.ev, env0, gu, gv, setD, resV, List.set, List.map, List.map_nil, List.map_cons, Option.map_none, Option.map_some, Option.some.injEq, exists_eq_left', pickV, binV, convV, load1V, max2V, min2V, nilchkV, unV, boolEq, isNilV, fadV, extV, slenV, ne_eq, not_true_eq_false, if_false, if_true, ite_true, ite_false, Bool.false_eq_true, Bool.true_eq_false, beq_true, beq_false, beq_self_eq_true, Bool.not_true, Bool.not_false, reduceCtorEq, List.getElem?_toArray, List.getElem?_cons_zero, List.getElem?_cons_succ]
    refine (copySystem_ok lim _ _ _ (by omega) (hs.ext hx) hn hn2).mono ?_
    rintro v H2 ⟨hO, hx2⟩
    have hnx2 := hx2.next
    rcases hO with ⟨_, rfl⟩ | ⟨b, vs, bs, hX⟩
    · simp at hiL
    simp only [o_cont, o_callT, callV_fn, o_pure, o_eff, o_callF, o_callN, o_guard, gk_tt, gk_ff, gk_tf, gk_ft, gk_u, t_op, t_alt, t_nil, o_nil, POp.ev, Opd.ev, EOp.ev, env0, gu, gv, setD, resV, List.set, List.map, List.map_nil, List.map_cons, Option.map_none, Option.map_some, Option.some.injEq, exists_eq_left', pickV, binV, convV, load1V, max2V, min2V, nilchkV, unV, boolEq, isNilV, fadV, extV, slenV, ne_eq, not_true_eq_false, if_false, if_true, ite_true, ite_false, Bool.false_eq_true, Bool.true_eq_false, beq_true, beq_false, beq_self_eq_true, Bool.not_true, Bool.not_false, reduceCtorEq, List.getElem?_toArray, List.getElem?_cons_zero, List.getElem?_cons_succ]
    obtain ⟨b1, o1, s1, u1, u2, u3⟩ := ((hs.ext hx).ext hx2).at hiL
    obtain ⟨b2, o2, s2, k1, k2, k3⟩ := ((hs.ext hx).ext hx2).at hkL
    refine s_reg ?_
    have hbl : fillV [.int .i64 0, .int .i64 0, .int .i64 0, .int .i64 0] [(0, 1, .int .i64 n)] = some (tc ⟨n, 0, 0, 0⟩) := by simp [fillV, cellsV, tc, putL]
    have hbs : bsliceH H2 1 [.int .i64 0, .int .i64 0, .int .i64 0, .int .i64 0] [(0, 4, .agg (tc ⟨n, 0, 0, 0⟩).toArray)] = some (.slice (some ⟨H2.next, 0, some 0⟩) 1 1, H2.alloc (tc ⟨n, 0, 0, 0⟩)) := bsliceT _ _
    simp only [o_cont, o_callT, callV_fn, o_pure, o_eff, o_callF, o_callN, o_guard, gk_tt, gk_ff, gk_tf, gk_ft, gk_u, t_op, t_alt, t_nil, o_nil, POp.ev, Opd.ev, EOp.ev, env0, gu, gv, setD, resV, List.set, List.map, List.map_nil, List.map_cons, Option.map_none, Option.map_some, Option.some.injEq, exists_eq_left', pickV, binV, convV, load1V, max2V, min2V, nilchkV, unV, boolEq, isNilV, fadV, extV, slenV, ne_eq, not_true_eq_false, if_false, if_true, ite_true, ite_false, Bool.false_eq_true, Bool.true_eq_false, beq_true, beq_false, beq_self_eq_true, Bool.not_true, Bool.not_false, reduceCtorEq, List.getElem?_toArray, List.getElem?_cons_zero, List.getElem?_cons_succ, u1, u2, k1, k2, hbl, hbs]
    have hx3 := Ext.alloc H2 (tc ⟨n, 0, 0, 0⟩)
    have ho := sl_one H2 ⟨n, 0, 0, 0⟩
    have hn3 : (H2.alloc (tc ⟨n, 0, 0, 0⟩)).next = H2.next + 1 := rfl
    generalize H2.alloc (tc ⟨n, 0, 0, 0⟩) = H3 at hx3 ho hn3 ⊢
    refine (multiplyTerms_ok H3.next s2 _ ss[k] [⟨n, 0, 0, 0⟩] H3 (Nat.le_refl _) (k3.ext hx3) ho (by omega) (by simp) (fun t ht => ok_exS (hq20.2.1 t ht).1) (fun t ht => by rw [List.mem_singleton.1 ht]; unfold exS; simp)).mono ?_
    rintro v4 H4 ⟨c4, g1, g2, g3, g4⟩
    simp only [o_cont, o_callT, callV_fn, o_pure, o_eff, o_callF, o_callN, o_guard, gk_tt, gk_ff, gk_tf, gk_ft, gk_u, t_op, t_alt, t_nil, o_nil, POp.ev, Opd.ev, EOp.ev, env0, gu, gv, setD, resV, List.set, List.map, List.map_nil, List.map_cons, Option.map_none, Option.map_some, Option.some.injEq, exists_eq_left', pickV, binV, convV, load1V, max2V, min2V, nilchkV, unV, boolEq, isNilV, fadV, extV, slenV, ne_eq, not_true_eq_false, if_false, if_true, ite_true, ite_false, Bool.false_eq_true, Bool.true_eq_false, beq_true, beq_false, beq_self_eq_true, Bool.not_true, Bool.not_false, reduceCtorEq, List.getElem?_toArray, List.getElem?_cons_zero, List.getElem?_cons_succ]
    have hx24 := hx3.trans g4
    have hsl4 : SlT H4 v4 (coll (prodL ss[k] [⟨n, 0, 0, 0⟩])) := Vec.sl g3
    have hs14 := u3.ext hx24
    have hn4 := g4.next
    simp only [o_cont, o_callT, callV_fn, o_pure, o_eff, o_callF, o_callN, o_guard, gk_tt, gk_ff, gk_tf, gk_ft, gk_u, t_op, t_alt, t_nil, o_nil, POp.ev, Opd.ev, EOp.ev, env0, gu, gv, setD, resV, List.set, List.map, List.map_nil, List.map_cons, Option.map_none, Option.map_some, Option.some.injEq, exists_eq_left', pickV, binV, convV, load1V, max2V, min2V, nilchkV, unV, boolEq, isNilV, fadV, extV, slenV, ne_eq, not_true_eq_false, if_false, if_true, ite_true, ite_false, Bool.false_eq_true, Bool.true_eq_false, beq_true, beq_false, beq_self_eq_true, Bool.not_true, Bool.not_false, reduceCtorEq, List.getElem?_toArray, List.getElem?_cons_zero, List.getElem?_cons_succ, bslice2 H4 hs14.cellsV hsl4.cellsV]
    have hx5 := Ext.alloc H4 [s1, v4]
    have ho5 := slss_two hs14 hsl4
    have hn5 : (H4.alloc [s1, v4]).next = H4.next + 1 := rfl
    generalize H4.alloc [s1, v4] = H5 at hx5 ho5 hn5 ⊢
    have hlm : (coll (prodL ss[k] [⟨n, 0, 0, 0⟩])).length ≤ 20 := by
      have h1 := coll_length (prodL ss[k] [⟨n, 0, 0, 0⟩])
      rw [prodL_length, List.length_singleton] at h1
      omega
    refine (concatT_ok lim _ _ H5 (by omega) ho5 (by simp [tot]; omega) (by simp)).mono ?_
    rintro v6 H6 ⟨q1, q2⟩
    simp only [o_cont, o_callT, callV_fn, o_pure, o_eff, o_callF, o_callN, o_guard, gk_tt, gk_ff, gk_tf, gk_ft, gk_u, t_op, t_alt, t_nil, o_nil, POp.ev, Opd.ev, EOp.ev, env0, gu, gv, setD, resV, List.set, List.map, List.map_nil, List.map_cons, Option.map_none, Option.map_some, Option.some.injEq, exists_eq_left', pickV, binV, convV, load1V, max2V, min2V, nilchkV, unV, boolEq, isNilV, fadV, extV, slenV, ne_eq, not_true_eq_false, if_false, if_true, ite_true, ite_false, Bool.false_eq_true, Bool.true_eq_false, beq_true, beq_false, beq_self_eq_true, Bool.not_true, Bool.not_false, reduceCtorEq, List.getElem?_toArray, List.getElem?_cons_zero, List.getElem?_cons_succ]
    have hn6 := q2.next
    have hfl : [ss[i], coll (prodL ss[k] [⟨n, 0, 0, 0⟩])].flatten = ss[i] ++ coll (prodL ss[k] [⟨n, 0, 0, 0⟩]) := by simp
    rw [hfl] at q1
    refine (collectG_ok lim _ _ H6 (by omega) q1 (by simp; omega)).mono ?_
    rintro v7 H7 ⟨c7, r1, r2, r3, r4⟩
    have hn7 := r4.next
    have hmx : coll (ss[i] ++ coll (prodL ss[k] [⟨n, 0, 0, 0⟩])) = mixF n ss[i] ss[k] := mix_same (good_can hp20.2.1 hp20.2.2)
    rw [hmx] at r3
    obtain ⟨c8, r3', hc8⟩ := VecT.avoid (a := H2.next) r3
    have hx27 : Ext H2 H7 := ((hx24.trans hx5).trans q2).trans r4
    have hX7 := hX.keep hx27.next fun c hc _ _ => hx27.blk c hc
    obtain ⟨H8, t1, t2, t3, t4, t5⟩ := hX7.setE (lim := lim) (i := i) (by omega) hiL (c := c8) (by omega) (by omega) r3'
    simp only [o_cont, o_callT, callV_fn, o_pure, o_eff, o_callF, o_callN, o_guard, gk_tt, gk_ff, gk_tf, gk_ft, gk_u, t_op, t_alt, t_nil, o_nil, POp.ev, Opd.ev, EOp.ev, env0, gu, gv, setD, resV, List.set, List.map, List.map_nil, List.map_cons, Option.map_none, Option.map_some, Option.some.injEq, exists_eq_left', pickV, binV, convV, load1V, max2V, min2V, nilchkV, unV, boolEq, isNilV, fadV, extV, slenV, ne_eq, not_true_eq_false, if_false, if_true, ite_true, ite_false, Bool.false_eq_true, Bool.true_eq_false, beq_true, beq_false, beq_self_eq_true, Bool.not_true, Bool.not_false, reduceCtorEq, List.getElem?_toArray, List.getElem?_cons_zero, List.getElem?_cons_succ, t1, t2]
    have hset : ss.set i (mixF n ss[i] ss[k]) = mixL ss i k n := by
      unfold mixL
      rw [List.getD_eq_getElem?_getD, List.getD_eq_getElem?_getD, List.getElem?_eq_getElem hiL, List.getElem?_eq_getElem hkL]
      rfl
    rw [hset] at t3
    have hOwn : OwnSS H8 H1.next H8.next v (mixL ss i k n) := .inr ⟨b, _, _, t3⟩
    have hRl := mixL_length ss i k n
    have hmem : ∀ p ∈ mixL ss i k n, p.length ≤ 1000000 := by
      intro p hp
      obtain ⟨j, hj, rfl⟩ := List.getElem_of_mem hp
      rw [hRl] at hj
      have := mixL_get (n := n) hiL hkL hj
      rw [List.getElem?_eq_getElem (by omega)] at this
      rw [Option.some.inj this]
      split
      · have := mixF_length n ss[k] ss[i]
        omega
      · have := (hall _ (List.getElem_mem hj)).1
        omega
    have hmR : mixR ss i k n = if goodSS (mixL ss i k n) then some (mixL ss i k n) else none := by
      unfold mixR
      rw [hg]
      simp
    have hx18 : Ext H1 H8 := Chg.ext (hx2.trans hx27) t4 (by have := hX.rng; omega)
    rw [hmR]
    refine s_test ?_
    simp only [o_cont, o_callT, callV_fn, o_pure, o_eff, o_callF, o_callN, o_guard, gk_tt, gk_ff, gk_tf, gk_ft, gk_u, t_op, t_alt, t_nil, o_nil, POp.ev, Opd.ev, EOp.ev, env0, gu, gv, setD, resV, List.set, List.map, List.map_nil, List.map_cons, Option.map_none, Option.map_some, Option.some.injEq, exists_eq_left', pickV, binV, convV, load1V, max2V, min2V, nilchkV, unV, boolEq, isNilV, fadV, extV, slenV, ne_eq, not_true_eq_false, if_false, if_true, ite_true, ite_false, Bool.false_eq_true, Bool.true_eq_false, beq_true, beq_false, beq_self_eq_true, Bool.not_true, Bool.not_false, reduceCtorEq, List.getElem?_toArray, List.getElem?_cons_zero, List.getElem?_cons_succ]
    refine (isSystem_ok lim _ _ _ (by omega) hOwn.slss (by omega) hmem).mono ?_
    rintro _ H9 ⟨rfl, hx9⟩
    have hnx9 := hx9.next
    simp only [o_cont, o_callT, callV_fn, o_pure, o_eff, o_callF, o_callN, o_guard, gk_tt, gk_ff, gk_tf, gk_ft, gk_u, t_op, t_alt, t_nil, o_nil, POp.ev, Opd.ev, EOp.ev, env0, gu, gv, setD, resV, List.set, List.map, List.map_nil, List.map_cons, Option.map_none, Option.map_some, Option.some.injEq, exists_eq_left', pickV, binV, convV, load1V, max2V, min2V, nilchkV, unV, boolEq, isNilV, fadV, extV, slenV, ne_eq, not_true_eq_false, if_false, if_true, ite_true, ite_false, Bool.false_eq_true, Bool.true_eq_false, beq_true, beq_false, beq_self_eq_true, Bool.not_true, Bool.not_false, reduceCtorEq, List.getElem?_toArray, List.getElem?_cons_zero, List.getElem?_cons_succ]
    cases hgg : goodSS (mixL ss i k n)
    · refine Test.true_ (s_reg ?_)
      simp only [o_cont, o_callT, callV_fn, o_pure, o_eff, o_callF, o_callN, o_guard, gk_tt, gk_ff, gk_tf, gk_ft, gk_u, t_op, t_alt, t_nil, o_nil, POp.ev, Opd.ev, EOp.ev, env0, gu, gv, setD, resV, List.set, List.map, List.map_nil, List.map_cons, Option.map_none, Option.map_some, Option.some.injEq, exists_eq_left', pickV, binV, convV, load1V, max2V, min2V, nilchkV, unV, boolEq, isNilV, fadV, extV, slenV, ne_eq, not_true_eq_false, if_false, if_true, ite_true, ite_false, Bool.false_eq_true, Bool.true_eq_false, beq_true, beq_false, beq_self_eq_true, Bool.not_true, Bool.not_false, reduceCtorEq, List.getElem?_toArray, List.getElem?_cons_zero, List.getElem?_cons_succ]
      refine s_ret1 ?_
      simp +decide only [p_seq_normal, p_seq_ret, p_seq_exit, p_block_normal, p_block_ret, p_block_exit, p_fin_ret, p_fin_normal, reduceIte, Nat.reduceEqDiff, resV, resOne, resL, gv, Option.some.injEq, exists_eq_left', Option.bind_some, Option.map_some, List.getD_cons_zero, List.getD_cons_succ]
      exact ⟨⟨_, rfl, .inl ⟨rfl, rfl⟩⟩, (hx.trans hx18).trans hx9⟩
    · refine Test.false_ (s_skip1 ?_)
      simp +decide only [p_seq_normal, p_seq_ret, p_seq_exit, p_block_normal, p_block_ret, p_block_exit, p_fin_ret, p_fin_normal, reduceIte, Nat.reduceEqDiff, resV, resOne, resL, gv, Option.some.injEq, exists_eq_left', Option.bind_some, Option.map_some, List.getD_cons_zero, List.getD_cons_succ]
      refine s_reg ?_
      simp only [o_cont, o_callT, callV_fn, o_pure, o_eff, o_callF, o_callN, o_guard, gk_tt, gk_ff, gk_tf, gk_ft, gk_u, t_op, t_alt, t_nil, o_nil, POp.ev, Opd.ev, EOp.ev, env0, gu, gv, setD, resV, List.set, List.map, List.map_nil, List.map_cons, Option.map_none, Option.map_some, Option.some.injEq, exists_eq_left', pickV, binV, convV, load1V, max2V, min2V, nilchkV, unV, boolEq, isNilV, fadV, extV, slenV, ne_eq, not_true_eq_false, if_false, if_true, ite_true, ite_false, Bool.false_eq_true, Bool.true_eq_false, beq_true, beq_false, beq_self_eq_true, Bool.not_true, Bool.not_false, reduceCtorEq, List.getElem?_toArray, List.getElem?_cons_zero, List.getElem?_cons_succ]
      refine s_ret1 ?_
      simp +decide only [p_seq_normal, p_seq_ret, p_seq_exit, p_block_normal, p_block_ret, p_block_exit, p_fin_ret, p_fin_normal, reduceIte, Nat.reduceEqDiff, resV, resOne, resL, gv, Option.some.injEq, exists_eq_left', Option.bind_some, Option.map_some, List.getD_cons_zero, List.getD_cons_succ]
      exact ⟨⟨v, rfl, (hOwn.ext hx9).wide hnx hnx9⟩, (hx.trans hx18).trans hx9⟩
end Go.Proofs.Ytaimceodhhgnnaa
