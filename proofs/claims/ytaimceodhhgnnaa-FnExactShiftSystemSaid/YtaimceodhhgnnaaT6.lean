/- Systems of polynomials, part 6 of the walk: systems that grow, and the specification's swapped system; no condition beyond stated lengths. -/
import Derived.Test.YtaimceodhhgnnaaT5
namespace Go.Ab
theorem awp.mono {P : Program} {lim : Nat} : ∀ (c : ACode) {Q Q' : Post} {e : List Value} {H : AHeap}, (∀ ex e H, Q ex e H → Q' ex e H) → awp P lim c Q e H → awp P lim c Q' e H
  | .skip, _, _, _, _, hq, h => hq _ _ _ h
  | .reg ops, _, _, _, _, hq, h => awpOps.mono (fun _ _ _ h => hq _ _ _ h) h
  | .regT T, _, _, _, _, hq, h => awpT.mono (fun _ _ _ h => hq _ _ _ h) h
  | .test ops c a b, _, _, _, _, hq, h => by
    refine awpOps.mono ?_ h
    rintro e t H ⟨g, h1, h2⟩
    refine ⟨g, h1, ?_⟩
    cases g with
    | true => exact awp.mono a hq h2
    | false => exact awp.mono b hq h2
  | .seq a b, _, _, _, _, hq, h => by
    refine awp.mono a ?_ h
    intro ex e H h
    cases ex <;> first | exact awp.mono b hq h | exact hq _ _ _ h
  | .cond c a b, _, _, _, _, hq, ⟨g, h1, h2⟩ => by
    refine ⟨g, h1, ?_⟩
    cases g with
    | true => exact awp.mono a hq h2
    | false => exact awp.mono b hq h2
  | .block id c, _, _, _, _, hq, h => by
    refine awp.mono c ?_ h
    intro ex e H h
    cases ex with
    | exit i =>
      simp only [Post.block] at h ⊢
      split <;> rename_i hi
      · rw [if_pos hi] at h; exact hq _ _ _ h
      · rw [if_neg hi] at h; exact hq _ _ _ h
    | _ => exact hq _ _ _ h
  | .loop c, _, _, _, _, hq, ⟨I, k, h1, h2⟩ => by
    refine ⟨I, k, h1, fun k e H hI => awp.mono c ?_ (h2 k e H hI)⟩
    intro ex e H h
    cases ex <;> first | exact h | exact hq _ _ _ h
  | .exit id, _, _, _, _, hq, h => hq _ _ _ h
  | .ret, _, _, _, _, hq, h => hq _ _ _ h
  | .fail, _, _, _, _, _, h => h.elim
/-- what stands behind a piece is told first -/
theorem s_cut1 {P : Program} {lim : Nat} {K : List Value → AHeap → Prop} {Q : Post} {e : List Value} {H : AHeap} {a : ACode} (I : List Value → AHeap → Prop) (h : awp P lim a (Post.seq I (fun _ _ _ => False)) e H) (h1 : ∀ e' H', I e' H' → K e' H') : awp P lim a (Post.seq K Q) e H := by
  refine awp.mono a ?_ h
  intro ex e H h
  cases ex <;> first | exact h1 _ _ h | exact h.elim
end Go.Ab
namespace Go.Proofs.Ytaimceodhhgnnaa
open Go.Ab
set_option linter.unusedSimpArgs false
set_option linter.unusedVariables false

def inU (n : Nat) (u : Int) : Bool := decide (0 ≤ u) && decide (u ≤ (n : Int) - 1)
theorem tfAsked_ok (lim : Nat) (s : Value) (ss : List (List Tm)) (u : Int) (H : AHeap) (hl : lim ≤ H.next) (hs : SlSS H s ss) (hn : ss.length ≤ 1000000) (hn2 : ∀ p ∈ ss, p.length ≤ 1000000) : ACalls Try.prog lim n_spec_tfAsked [s, .int .i64 u] H fun v H' => v = .bool (goodSS ss && inU ss.length u) ∧ Ext H H' := by
  refine is_spec_tfAsked.go rfl ?_
  unfold c_spec_tfAsked
  have hsub : IntKind.i64.wrap ((ss.length : Int) - 1) = (ss.length : Int) - 1 := by rw [IntKind.wrap_i64]; omega
  refine s_reg ?_
  simp only [o_cont, o_callT, callV_fn, o_pure, o_eff, o_callF, o_callN, o_guard, gk_tt, gk_ff, gk_tf, gk_ft, gk_u, t_op, t_alt, t_nil, o_nil, POp.ev, Opd.ev, EOp.ev, env0, gu, gv, setD, resV, List.set, List.map, List.map_nil, List.map_cons, Option.map_none, Option.map_some, Option.some.injEq, exists_eq_left', pickV, binV, convV, load1V, max2V, min2V, nilchkV, unV, boolEq, isNilV, fadV, extV, slenV, ne_eq, not_true_eq_false, if_false, if_true, ite_true, ite_false, Bool.false_eq_true, Bool.true_eq_false, beq_true, beq_false, beq_self_eq_true, Bool.not_true, Bool.not_false, reduceCtorEq, List.getElem?_toArray, List.getElem?_cons_zero, List.getElem?_cons_succ]
  refine s_reg ?_
  simp only [o_cont, o_callT, callV_fn, o_pure, o_eff, o_callF, o_callN, o_guard, gk_tt, gk_ff, gk_tf, gk_ft, gk_u, t_op, t_alt, t_nil, o_nil, POp.ev, Opd.ev, EOp.ev, env0, gu, gv, setD, resV, List.set, List.map, List.map_nil, List.map_cons, Option.map_none, Option.map_some, Option.some.injEq, exists_eq_left', pickV, binV, convV, load1V, max2V, min2V, nilchkV, unV, boolEq, isNilV, fadV, extV, slenV, ne_eq, not_true_eq_false, if_false, if_true, ite_true, ite_false, Bool.false_eq_true, Bool.true_eq_false, beq_true, beq_false, beq_self_eq_true, Bool.not_true, Bool.not_false, reduceCtorEq, List.getElem?_toArray, List.getElem?_cons_zero, List.getElem?_cons_succ]
  refine (poSystem_ok lim _ _ _ hl hs hn hn2).mono ?_
  rintro _ H2 ⟨rfl, hx⟩
  cases hg : goodSS ss
  · simp only [o_cont, o_callT, callV_fn, o_pure, o_eff, o_callF, o_callN, o_guard, gk_tt, gk_ff, gk_tf, gk_ft, gk_u, t_op, t_alt, t_nil, o_nil, POp.ev, Opd.ev, EOp.ev, env0, gu, gv, setD, resV, List.set, List.map, List.map_nil, List.map_cons, Option.map_none, Option.map_some, Option.some.injEq, exists_eq_left', pickV, binV, convV, load1V, max2V, min2V, nilchkV, unV, boolEq, isNilV, fadV, extV, slenV, ne_eq, not_true_eq_false, if_false, if_true, ite_true, ite_false, Bool.false_eq_true, Bool.true_eq_false, beq_true, beq_false, beq_self_eq_true, Bool.not_true, Bool.not_false, reduceCtorEq, List.getElem?_toArray, List.getElem?_cons_zero, List.getElem?_cons_succ]
    refine s_ret1 ?_
    simp +decide only [p_seq_normal, p_seq_ret, p_seq_exit, p_block_normal, p_block_ret, p_block_exit, p_fin_ret, p_fin_normal, reduceIte, Nat.reduceEqDiff, resV, resOne, resL, gv, Option.some.injEq, exists_eq_left', Option.bind_some, Option.map_some, List.getD_cons_zero, List.getD_cons_succ]
    exact ⟨by simp, hx⟩
  · simp only [o_cont, o_callT, callV_fn, o_pure, o_eff, o_callF, o_callN, o_guard, gk_tt, gk_ff, gk_tf, gk_ft, gk_u, t_op, t_alt, t_nil, o_nil, POp.ev, Opd.ev, EOp.ev, env0, gu, gv, setD, resV, List.set, List.map, List.map_nil, List.map_cons, Option.map_none, Option.map_some, Option.some.injEq, exists_eq_left', pickV, binV, convV, load1V, max2V, min2V, nilchkV, unV, boolEq, isNilV, fadV, extV, slenV, ne_eq, not_true_eq_false, if_false, if_true, ite_true, ite_false, Bool.false_eq_true, Bool.true_eq_false, beq_true, beq_false, beq_self_eq_true, Bool.not_true, Bool.not_false, reduceCtorEq, List.getElem?_toArray, List.getElem?_cons_zero, List.getElem?_cons_succ, hs.lenV, hsub]
    refine (l1In_ok _ _ _ _ _).eq ?_
    simp only [o_cont, o_callT, callV_fn, o_pure, o_eff, o_callF, o_callN, o_guard, gk_tt, gk_ff, gk_tf, gk_ft, gk_u, t_op, t_alt, t_nil, o_nil, POp.ev, Opd.ev, EOp.ev, env0, gu, gv, setD, resV, List.set, List.map, List.map_nil, List.map_cons, Option.map_none, Option.map_some, Option.some.injEq, exists_eq_left', pickV, binV, convV, load1V, max2V, min2V, nilchkV, unV, boolEq, isNilV, fadV, extV, slenV, ne_eq, not_true_eq_false, if_false, if_true, ite_true, ite_false, Bool.false_eq_true, Bool.true_eq_false, beq_true, beq_false, beq_self_eq_true, Bool.not_true, Bool.not_false, reduceCtorEq, List.getElem?_toArray, List.getElem?_cons_zero, List.getElem?_cons_succ]
    refine s_ret1 ?_
    simp +decide only [p_seq_normal, p_seq_ret, p_seq_exit, p_block_normal, p_block_ret, p_block_exit, p_fin_ret, p_fin_normal, reduceIte, Nat.reduceEqDiff, resV, resOne, resL, gv, Option.some.injEq, exists_eq_left', Option.bind_some, Option.map_some, List.getD_cons_zero, List.getD_cons_succ]
    exact ⟨by simp [inU], hx⟩

theorem bslice0 (H : AHeap) : bsliceH H 0 [] [] = some (.slice (some ⟨H.next, 0, some 0⟩) 0 0, H.alloc []) := rfl
/-- terms behind an empty list of one's own -/
theorem own_terms {lim : Nat} {H : AHeap} {s : Value} {p : List Tm} (hl : lim ≤ H.next) (hs : SlT H s p) (hn : p.length ≤ 1000000000) :
    ∃ v' H' b, appendH lim (H.alloc []) 4 32 (.slice (some ⟨H.next, 0, some 0⟩) 0 0) s = some (v', H') ∧ VecT H' b v' p ∧ H.next ≤ b ∧ b < H'.next ∧ Ext H H' := by
  have h0 : Vec (H.alloc []) H.next (.slice (some ⟨H.next, 0, some 0⟩) 0 0) 0 4 [] := Vec.lit rfl
  obtain ⟨v', H', b', h1, h2, h3, h4, h5⟩ := h0.append (lim := lim) hl (hs.ext (Ext.alloc H [])) (by decide) (bytes := 32) (by omega)
  refine ⟨v', H', b', h1, by simpa [VecT] using h2, by rcases h3 with rfl | ⟨rfl, _⟩ <;> simp [alloc_next], ?_, Chg.ext (Ext.alloc H []) h4 (Nat.le_refl _)⟩
  rcases h3 with rfl | ⟨rfl, h6⟩
  · exact Nat.lt_of_lt_of_le (Nat.lt_succ_self _) h4.next
  · exact h6
theorem clone_ok (lim : Nat) (s : Value) (p : List Tm) (H : AHeap) (hl : lim ≤ H.next) (hs : SlT H s p) (hn : p.length ≤ 1000000000) :
    ACalls Try.prog lim n_slices_Clone_S_impl_Term_impl_Term [s] H fun v H' => ∃ b, H.next ≤ b ∧ b ≤ H'.next ∧ VecT H' b v p ∧ Ext H H' := by
  refine is_slices_Clone_S_impl_Term_impl_Term.go rfl ?_
  unfold c_slices_Clone_S_impl_Term_impl_Term
  refine s_reg ?_
  simp only [o_cont, o_callT, callV_fn, o_pure, o_eff, o_callF, o_callN, o_guard, gk_tt, gk_ff, gk_tf, gk_ft, gk_u, t_op, t_alt, t_nil, o_nil, POp.ev, Opd.ev, EOp.ev, env0, gu, gv, setD, resV, List.set, List.map, List.map_nil, List.map_cons, Option.map_none, Option.map_some, Option.some.injEq, exists_eq_left', pickV, binV, convV, load1V, max2V, min2V, nilchkV, unV, boolEq, isNilV, fadV, extV, slenV, ne_eq, not_true_eq_false, if_false, if_true, ite_true, ite_false, Bool.false_eq_true, Bool.true_eq_false, beq_true, beq_false, beq_self_eq_true, Bool.not_true, Bool.not_false, reduceCtorEq, List.getElem?_toArray, List.getElem?_cons_zero, List.getElem?_cons_succ]
  refine s_test ?_
  have hs2 := hs
  obtain ⟨_, a, cap, rfl, hc, hc0, _⟩ := hs2
  cases a with
  | none =>
    have := hc0 rfl
    have hl0 : p = [] := List.length_eq_zero_iff.1 (by omega)
    subst hl0
    simp only [o_cont, o_callT, callV_fn, o_pure, o_eff, o_callF, o_callN, o_guard, gk_tt, gk_ff, gk_tf, gk_ft, gk_u, t_op, t_alt, t_nil, o_nil, POp.ev, Opd.ev, EOp.ev, env0, gu, gv, setD, resV, List.set, List.map, List.map_nil, List.map_cons, Option.map_none, Option.map_some, Option.some.injEq, exists_eq_left', pickV, binV, convV, load1V, max2V, min2V, nilchkV, unV, boolEq, isNilV, fadV, extV, slenV, ne_eq, not_true_eq_false, if_false, if_true, ite_true, ite_false, Bool.false_eq_true, Bool.true_eq_false, beq_true, beq_false, beq_self_eq_true, Bool.not_true, Bool.not_false, reduceCtorEq, List.getElem?_toArray, List.getElem?_cons_zero, List.getElem?_cons_succ]
    refine Test.true_ (s_reg ?_)
    simp only [o_cont, o_callT, callV_fn, o_pure, o_eff, o_callF, o_callN, o_guard, gk_tt, gk_ff, gk_tf, gk_ft, gk_u, t_op, t_alt, t_nil, o_nil, POp.ev, Opd.ev, EOp.ev, env0, gu, gv, setD, resV, List.set, List.map, List.map_nil, List.map_cons, Option.map_none, Option.map_some, Option.some.injEq, exists_eq_left', pickV, binV, convV, load1V, max2V, min2V, nilchkV, unV, boolEq, isNilV, fadV, extV, slenV, ne_eq, not_true_eq_false, if_false, if_true, ite_true, ite_false, Bool.false_eq_true, Bool.true_eq_false, beq_true, beq_false, beq_self_eq_true, Bool.not_true, Bool.not_false, reduceCtorEq, List.getElem?_toArray, List.getElem?_cons_zero, List.getElem?_cons_succ]
    refine s_ret1 ?_
    simp +decide only [p_seq_normal, p_seq_ret, p_seq_exit, p_block_normal, p_block_ret, p_block_exit, p_fin_ret, p_fin_normal, reduceIte, Nat.reduceEqDiff, resV, resOne, resL, gv, Option.some.injEq, exists_eq_left', Option.bind_some, Option.map_some, List.getD_cons_zero, List.getD_cons_succ]
    exact ⟨H.next, Nat.le_refl _, Nat.le_refl _, Vec.nil _ _ _, Ext.refl _⟩
  | some ad =>
    obtain ⟨v', H', b, h1, h2, h3, h4, h5⟩ := own_terms hl hs hn
    simp only [o_cont, o_callT, callV_fn, o_pure, o_eff, o_callF, o_callN, o_guard, gk_tt, gk_ff, gk_tf, gk_ft, gk_u, t_op, t_alt, t_nil, o_nil, POp.ev, Opd.ev, EOp.ev, env0, gu, gv, setD, resV, List.set, List.map, List.map_nil, List.map_cons, Option.map_none, Option.map_some, Option.some.injEq, exists_eq_left', pickV, binV, convV, load1V, max2V, min2V, nilchkV, unV, boolEq, isNilV, fadV, extV, slenV, ne_eq, not_true_eq_false, if_false, if_true, ite_true, ite_false, Bool.false_eq_true, Bool.true_eq_false, beq_true, beq_false, beq_self_eq_true, Bool.not_true, Bool.not_false, reduceCtorEq, List.getElem?_toArray, List.getElem?_cons_zero, List.getElem?_cons_succ]
    refine Test.false_ (s_skip1 ?_)
    simp +decide only [p_seq_normal, p_seq_ret, p_seq_exit, p_block_normal, p_block_ret, p_block_exit, p_fin_ret, p_fin_normal, reduceIte, Nat.reduceEqDiff, resV, resOne, resL, gv, Option.some.injEq, exists_eq_left', Option.bind_some, Option.map_some, List.getD_cons_zero, List.getD_cons_succ]
    refine s_reg ?_
    simp only [o_cont, o_callT, callV_fn, o_pure, o_eff, o_callF, o_callN, o_guard, gk_tt, gk_ff, gk_tf, gk_ft, gk_u, t_op, t_alt, t_nil, o_nil, POp.ev, Opd.ev, EOp.ev, env0, gu, gv, setD, resV, List.set, List.map, List.map_nil, List.map_cons, Option.map_none, Option.map_some, Option.some.injEq, exists_eq_left', pickV, binV, convV, load1V, max2V, min2V, nilchkV, unV, boolEq, isNilV, fadV, extV, slenV, ne_eq, not_true_eq_false, if_false, if_true, ite_true, ite_false, Bool.false_eq_true, Bool.true_eq_false, beq_true, beq_false, beq_self_eq_true, Bool.not_true, Bool.not_false, reduceCtorEq, List.getElem?_toArray, List.getElem?_cons_zero, List.getElem?_cons_succ, bslice0, h1]
    refine s_ret1 ?_
    simp +decide only [p_seq_normal, p_seq_ret, p_seq_exit, p_block_normal, p_block_ret, p_block_exit, p_fin_ret, p_fin_normal, reduceIte, Nat.reduceEqDiff, resV, resOne, resL, gv, Option.some.injEq, exists_eq_left', Option.bind_some, Option.map_some, List.getD_cons_zero, List.getD_cons_succ]
    exact ⟨b, h3, by omega, h2, h5⟩

theorem bsliceV (H : AHeap) {x : Value} (z : Value) (hx : cellsV x = some [x]) : bsliceH H 1 [z] [(0, 1, x)] = some (.slice (some ⟨H.next, 0, some 0⟩) 1 1, H.alloc [x]) := by
  simp [bsliceH, fillV, hx]
theorem push1 {lim : Nat} {H : AHeap} {b n bytes : Nat} {v : Value} {cells : List Value} (h : Vec H b v n 1 cells) (x : Value) (hl : lim ≤ b) (hn : (n + 1) * bytes ≤ 140737488355328) :
    ∃ v' H' b', appendH lim (H.alloc [x]) 1 bytes v (.slice (some ⟨H.next, 0, some 0⟩) 1 1) = some (v', H') ∧ Vec H' b' v' (n + 1) 1 (cells ++ [x]) ∧ (b' = b ∨ H.next < b') ∧ b' < H'.next ∧ Chg b H H' ∧ H.next < H'.next := by
  have hx : Vec (H.alloc [x]) H.next (.slice (some ⟨H.next, 0, some 0⟩) 1 1) 1 1 [x] := Vec.lit rfl
  obtain ⟨v', H', b', h1, h2, h3, h4, h5⟩ := (h.ext (Ext.alloc H [x])).append (lim := lim) hl hx.sl (by decide) (bytes := bytes) hn
  refine ⟨v', H', b', h1, h2, ?_, (h2.blk (by omega)).elim fun _ h => h.2, (Chg.of_ext (Ext.alloc H [x])).trans h4, Nat.lt_of_lt_of_le (Nat.lt_succ_self _) h4.next⟩
  rcases h3 with rfl | ⟨rfl, _⟩
  · exact .inl rfl
  · exact .inr (Nat.lt_succ_self _)

/-- a system that grows -/
structure GrowX (H : AHeap) (lo b : Nat) (vs : List Value) (bs : List Nat) (v : Value) (ss : List (List Tm)) : Prop where
  vec : Vec H b v ss.length 1 vs
  len : bs.length = ss.length
  nil : ss = [] → v = .slice none 0 0
  low : lo ≤ b
  hi : ss ≠ [] → b < H.next
  nodup : bs.Nodup
  nin : b ∉ bs
  rngs : ∀ c ∈ bs, lo ≤ c ∧ c < H.next
  el : ∀ (i : Nat) (p : List Tm), ss[i]? = some p → ∃ s c, vs[i]? = some s ∧ bs[i]? = some c ∧ VecT H c s p
theorem GrowX.nil' (H : AHeap) : GrowX H H.next H.next [] [] (.slice none 0 0) [] :=
  ⟨Vec.nil _ _ _, rfl, fun _ => rfl, Nat.le_refl _, fun h => absurd rfl h, List.nodup_nil, by simp, by simp, by intro i p h; simp at h⟩
theorem GrowX.own {H : AHeap} {lo b : Nat} {vs : List Value} {bs : List Nat} {v : Value} {ss : List (List Tm)} (h : GrowX H lo b vs bs v ss) : OwnSS H lo H.next v ss := by
  by_cases hs : ss = []
  · exact .inl ⟨h.nil hs, hs⟩
  · exact .inr ⟨b, vs, bs, h.vec, h.len, ⟨h.low, h.hi hs⟩, h.nodup, h.nin, h.rngs, h.el⟩
theorem GrowX.push {lim : Nat} {H0 H H2 : AHeap} {lo b c : Nat} {vs : List Value} {bs : List Nat} {v s : Value} {ss : List (List Tm)} {p : List Tm} (h : GrowX H lo b vs bs v ss) (hlim : lim ≤ lo) (hx0 : Ext H0 H) (hlo : H0.next ≤ lo) (hloH : lo ≤ H.next) (hx : Ext H H2)
    (hc1 : H.next ≤ c) (hc2 : c ≤ H2.next) (hp : VecT H2 c s p) (hn : ss.length ≤ 1000000) :
    ∃ v' H3 b', appendH lim (H2.alloc [s]) 1 24 v (.slice (some ⟨H2.next, 0, some 0⟩) 1 1) = some (v', H3) ∧ GrowX H3 lo b' (vs ++ [s]) (bs ++ [c]) v' (ss ++ [p]) ∧ Ext H0 H3 := by
  obtain ⟨h1, h2, hnil, h3, h4, h5, h6, h7, h8⟩ := h
  have hnx := hx.next
  have hclen := h1.clen
  -- the block that is appended to
  obtain ⟨b0, hv0, hb0, hbc, hbn, hbl⟩ : ∃ b0, Vec H2 b0 v ss.length 1 vs ∧ lo ≤ b0 ∧ b0 ≠ c ∧ b0 ∉ bs ∧ (b0 < H.next ∨ H2.next < b0) := by
    by_cases hs : ss = []
    · subst hs
      have hv := hnil rfl
      subst hv
      have hvs : vs = [] := List.length_eq_zero_iff.1 (by simpa using hclen)
      subst hvs
      refine ⟨H2.next + 1, Vec.nil _ _ _, by omega, by omega, fun hm => ?_, .inr (by omega)⟩
      have := h7 _ hm
      omega
    · have := h4 hs
      exact ⟨b, h1.ext hx, h3, by omega, h6, .inl this⟩
  obtain ⟨v', H3, b', g1, g2, g3, g4, g5, g6⟩ := push1 hv0 (lim := lim) s (by omega) (bytes := 24) (by omega)
  have hbl' : b' = b0 ∨ H2.next < b' := g3
  refine ⟨v', H3, b', g1, ⟨by rw [List.length_append]; exact g2, by simp [h2], by simp, by omega, fun _ => g4, ?_, ?_, ?_, ?_⟩, Chg.ext (hx0.trans hx) g5 (by omega)⟩
  · refine List.nodup_append.2 ⟨h5, by simp, ?_⟩
    intro x hx' y hy
    simp at hy
    subst hy
    have := h7 x hx'
    omega
  · intro hm
    rcases List.mem_append.1 hm with hm | hm
    · rcases hbl' with rfl | hbl'
      · exact hbn hm
      · have := h7 _ hm
        omega
    · simp at hm
      omega
  · intro c' hc'
    rcases List.mem_append.1 hc' with hm | hm
    · have := h7 _ hm
      omega
    · simp at hm
      omega
  · intro j q hq
    by_cases hj : j < ss.length
    · rw [List.getElem?_append_left hj] at hq
      obtain ⟨s', c', q1, q2, q3⟩ := h8 j q hq
      have hm := List.mem_of_getElem? q2
      refine ⟨s', c', by rw [List.getElem?_append_left (by omega)]; exact q1, by rw [List.getElem?_append_left (by omega)]; exact q2, VecT.chg (VecT.ext q3 hx) g5 (fun e => hbn (e ▸ hm))⟩
    · rw [List.getElem?_append_right (by omega)] at hq
      have hji : j = ss.length := by
        have := (List.getElem?_eq_some_iff.1 hq).1
        simp at this; omega
      subst hji
      simp at hq
      subst hq
      exact ⟨s, c, by rw [List.getElem?_append_right (by omega)]; simp [hclen], by rw [List.getElem?_append_right (by omega)]; simp [h2], VecT.chg hp g5 (fun e => hbc e.symm)⟩

/-- a system and whether there is one -/
def ResSS (H : AHeap) (lo : Nat) (v : Value) (r : Option (List (List Tm))) : Prop := ∃ x, v = .tuple #[x, .bool r.isSome] ∧ OwnSS H lo H.next x (r.getD [])

end Go.Proofs.Ytaimceodhhgnnaa
