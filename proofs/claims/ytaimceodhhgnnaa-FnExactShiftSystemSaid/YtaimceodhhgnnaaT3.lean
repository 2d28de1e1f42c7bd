/- Systems of polynomials, part 3 of the walk: the laws' helpers on systems; no condition beyond stated lengths. -/
import Derived.Test.YtaimceodhhgnnaaT2
namespace Go.Proofs.Ytaimceodhhgnnaa
open Go.Ab
set_option linter.unusedSimpArgs false
set_option linter.unusedVariables false

/-- only blocks within the bounds are turned -/
structure Out (lo hi : Nat) (H H' : AHeap) : Prop where
  next : H.next ≤ H'.next
  blk : ∀ b, b < H.next → (b < lo ∨ hi ≤ b) → H'.blk b = H.blk b
theorem Out.refl (lo hi : Nat) (H : AHeap) : Out lo hi H H := ⟨Nat.le_refl _, fun _ _ _ => rfl⟩
theorem Out.of_ext {lo hi : Nat} {H H' : AHeap} (h : Ext H H') : Out lo hi H H' := ⟨h.next, fun b hb _ => h.blk b hb⟩
theorem Out.trans {lo hi : Nat} {H H1 H2 : AHeap} (h : Out lo hi H H1) (k : Out lo hi H1 H2) : Out lo hi H H2 := ⟨Nat.le_trans h.next k.next, fun b hb hn => (k.blk b (Nat.lt_of_lt_of_le hb h.next) hn).trans (h.blk b hb hn)⟩
theorem Out.of_chg {lo hi b : Nat} {H H' : AHeap} (h : Chg b H H') (h1 : lo ≤ b) (h2 : b < hi) : Out lo hi H H' := ⟨h.next, fun b' hb hn => h.blk b' hb (by omega)⟩
theorem Out.ext {lo hi : Nat} {H0 H H' : AHeap} (hx : Ext H0 H) (h : Out lo hi H H') (hl : H0.next ≤ lo) : Ext H0 H' :=
  ⟨Nat.le_trans hx.next h.next, fun b hb => (h.blk b (Nat.lt_of_lt_of_le hb hx.next) (by omega)).trans (hx.blk b hb)⟩

def SlSS (H : AHeap) (v : Value) (ss : List (List Tm)) : Prop := ∃ vs : List Value, Sl H v ss.length 1 vs ∧ ∀ (i : Nat) (p : List Tm), ss[i]? = some p → ∃ s, vs[i]? = some s ∧ SlT H s p
theorem SlSS.ext {H H' : AHeap} {v : Value} {ss : List (List Tm)} (h : SlSS H v ss) (hx : Ext H H') : SlSS H' v ss := by
  obtain ⟨vs, h1, h2⟩ := h
  refine ⟨vs, h1.keep (Keep.of_ext hx (Nat.le_refl _)) (Nat.le_refl _), fun i p hp => ?_⟩
  obtain ⟨s, g1, g2⟩ := h2 i p hp
  exact ⟨s, g1, g2.ext hx⟩
theorem SlSS.lenV {H : AHeap} {v : Value} {ss : List (List Tm)} (h : SlSS H v ss) : lenV v = some (.int .i64 ss.length) := by
  obtain ⟨vs, h1, _⟩ := h
  exact h1.lenV
theorem SlSS.at {H : AHeap} {v : Value} {ss : List (List Tm)} (h : SlSS H v ss) {i : Nat} (hi : i < ss.length) : ∃ b o s, iadV 1 v (.int .i64 i) = some (.pointer (some ⟨b, o, none⟩)) ∧ H.cell b o = some s ∧ SlT H s ss[i] := by
  obtain ⟨vs, h1, h2⟩ := h
  obtain ⟨b, o, g1, g2, g3⟩ := h1.cell .i64 (i := (i : Int)) (by omega) (by omega)
  obtain ⟨s, k1, k2⟩ := h2 i _ (List.getElem?_eq_getElem hi)
  rw [show (i : Int).toNat = i by omega, k1] at g3
  exact ⟨b, o, s, g1, g3, k2⟩
theorem SlSS.nil (H : AHeap) : SlSS H (.slice none 0 0) [] := ⟨[], Sl.nil _ _, by intro i p h; simp at h⟩

/-- a system of one's own: its blocks lie within the bounds, each is another one -/
structure OwnX (H : AHeap) (lo hi b : Nat) (vs : List Value) (bs : List Nat) (v : Value) (ss : List (List Tm)) : Prop where
  vec : Vec H b v ss.length 1 vs
  len : bs.length = ss.length
  rng : lo ≤ b ∧ b < hi
  nodup : bs.Nodup
  nin : b ∉ bs
  rngs : ∀ c ∈ bs, lo ≤ c ∧ c < hi
  el : ∀ (i : Nat) (p : List Tm), ss[i]? = some p → ∃ s c, vs[i]? = some s ∧ bs[i]? = some c ∧ VecT H c s p
def OwnSS (H : AHeap) (lo hi : Nat) (v : Value) (ss : List (List Tm)) : Prop := (v = .slice none 0 0 ∧ ss = []) ∨ ∃ b vs bs, OwnX H lo hi b vs bs v ss
theorem OwnX.keep {H H' : AHeap} {lo hi b : Nat} {vs : List Value} {bs : List Nat} {v : Value} {ss : List (List Tm)} (h : OwnX H lo hi b vs bs v ss) (hn : H.next ≤ H'.next) (hb : ∀ c, c < H.next → lo ≤ c → c < hi → H'.blk c = H.blk c) : OwnX H' lo hi b vs bs v ss := by
  obtain ⟨h1, h2, h3, h4, h5, h6, h7⟩ := h
  refine ⟨h1.keep hn (fun hlt => hb b hlt h3.1 h3.2), h2, h3, h4, h5, h6, fun i p hp => ?_⟩
  obtain ⟨s, c, g1, g2, g3⟩ := h7 i p hp
  obtain ⟨k1, k2⟩ := h6 c (List.mem_of_getElem? g2)
  exact ⟨s, c, g1, g2, Vec.keep g3 hn (fun hlt => hb c hlt k1 k2)⟩
theorem OwnSS.keep {H H' : AHeap} {lo hi : Nat} {v : Value} {ss : List (List Tm)} (h : OwnSS H lo hi v ss) (hn : H.next ≤ H'.next) (hb : ∀ c, c < H.next → lo ≤ c → c < hi → H'.blk c = H.blk c) : OwnSS H' lo hi v ss := by
  rcases h with h | ⟨b, vs, bs, h⟩
  · exact .inl h
  · exact .inr ⟨b, vs, bs, h.keep hn hb⟩
theorem OwnSS.ext {H H' : AHeap} {lo hi : Nat} {v : Value} {ss : List (List Tm)} (h : OwnSS H lo hi v ss) (hx : Ext H H') : OwnSS H' lo hi v ss := h.keep hx.next fun c hc _ _ => hx.blk c hc
theorem OwnSS.out {H H' : AHeap} {lo hi lo' hi' : Nat} {v : Value} {ss : List (List Tm)} (h : OwnSS H lo hi v ss) (hx : Out lo' hi' H H') (hd : hi ≤ lo' ∨ hi' ≤ lo) : OwnSS H' lo hi v ss :=
  h.keep hx.next fun c hc h1 h2 => hx.blk c hc (by omega)
theorem OwnSS.slss {H : AHeap} {lo hi : Nat} {v : Value} {ss : List (List Tm)} (h : OwnSS H lo hi v ss) : SlSS H v ss := by
  rcases h with ⟨rfl, rfl⟩ | ⟨b, vs, bs, h1, h2, h3, h4, h5, h6, h7⟩
  · exact SlSS.nil _
  · refine ⟨vs, h1.sl, fun i p hp => ?_⟩
    obtain ⟨s, c, g1, g2, g3⟩ := h7 i p hp
    exact ⟨s, g1, Vec.sl g3⟩
theorem OwnSS.wide {H : AHeap} {lo hi lo' hi' : Nat} {v : Value} {ss : List (List Tm)} (h : OwnSS H lo hi v ss) (h1 : lo' ≤ lo) (h2 : hi ≤ hi') : OwnSS H lo' hi' v ss := by
  rcases h with h | ⟨b, vs, bs, g1, g2, g3, g4, g5, g6, g7⟩
  · exact .inl h
  · exact .inr ⟨b, vs, bs, g1, g2, by omega, g4, g5, fun c hc => by have := g6 c hc; omega, g7⟩
/-- one polynomial is turned in its place -/
theorem OwnX.upd {H H' : AHeap} {lo hi b : Nat} {vs : List Value} {bs : List Nat} {v : Value} {ss : List (List Tm)} (h : OwnX H lo hi b vs bs v ss) {i c : Nat} {s : Value} {p : List Tm} (hlt : i < ss.length) (hs : vs[i]? = some s) (hc : bs[i]? = some c) (hx : Chg c H H') (hp : VecT H' c s p) :
    OwnX H' lo hi b vs bs v (ss.set i p) := by
  obtain ⟨h1, h2, h3, h4, h5, h6, h7⟩ := h
  have hcm := List.mem_of_getElem? hc
  refine ⟨by rw [List.length_set]; exact h1.chg hx (fun e => h5 (e ▸ hcm)), by rw [List.length_set]; exact h2, h3, h4, h5, h6, fun j q hq => ?_⟩
  by_cases hji : i = j
  · subst hji
    rw [List.getElem?_set_self hlt] at hq
    cases hq
    exact ⟨s, c, hs, hc, hp⟩
  · rw [List.getElem?_set_ne hji] at hq
    obtain ⟨s', c', g1, g2, g3⟩ := h7 j q hq
    refine ⟨s', c', g1, g2, VecT.chg g3 hx (fun e => ?_)⟩
    subst e
    obtain ⟨l1, e1⟩ := List.getElem?_eq_some_iff.1 hc
    obtain ⟨l2, e2⟩ := List.getElem?_eq_some_iff.1 g2
    exact hji ((List.getElem_inj h4).1 (e1.trans e2.symm))

def tot (ss : List (List Tm)) : Nat := (ss.map (·.length)).sum
theorem tot_cons (p : List Tm) (ss : List (List Tm)) : tot (p :: ss) = p.length + tot ss := by simp [tot]
theorem tot_append (a b : List (List Tm)) : tot (a ++ b) = tot a + tot b := by simp [tot]
theorem tot_take_succ {ss : List (List Tm)} {i : Nat} (h : i < ss.length) : tot (ss.take (i + 1)) = tot (ss.take i) + ss[i].length := by
  rw [List.take_add_one, List.getElem?_eq_getElem h, tot_append]
  simp [tot]
theorem tot_take_le (ss : List (List Tm)) (i : Nat) : tot (ss.take i) ≤ tot ss := by
  have := tot_append (ss.take i) (ss.drop i)
  rw [List.take_append_drop] at this
  omega
theorem len_le_tot {ss : List (List Tm)} {i : Nat} (h : i < ss.length) : ss[i].length ≤ tot ss := by
  have h1 := tot_take_succ h
  have h2 := tot_take_le ss (i + 1)
  omega

theorem szTermSS_ok (lim : Nat) (s : Value) (ss : List (List Tm)) (left : Int) (H : AHeap) (hs : SlSS H s ss) (h0 : -20000000000000 ≤ left) (h1 : left ≤ 1000000000) (hn : ss.length ≤ 20000000000000) (hn2 : ∀ p ∈ ss, p.length ≤ 20000000000000) :
    ACalls Try.prog lim n_laws_szTermSS [s, .int .i64 left] H fun v H' => (∃ r : Int, v = .int .i64 r ∧ (¬ r < 0 → (ss.length : Int) + tot ss ≤ left)) ∧ H' = H := by
  refine is_laws_szTermSS.go rfl ?_
  unfold c_laws_szTermSS
  have hw : IntKind.i64.wrap (left - ss.length) = left - ss.length := by rw [IntKind.wrap_i64]; omega
  refine s_reg ?_
  simp only [o_cont, o_callT, callV_fn, o_pure, o_eff, o_callF, o_callN, o_guard, gk_tt, gk_ff, gk_tf, gk_ft, gk_u, t_op, t_alt, t_nil, o_nil, POp.ev, Opd.ev, EOp.ev, env0, gu, gv, setD, resV, List.set, List.map, List.map_nil, List.map_cons, Option.map_none, Option.map_some, Option.some.injEq, exists_eq_left', pickV, binV, convV, load1V, max2V, min2V, nilchkV, unV, boolEq, isNilV, fadV, extV, slenV, ne_eq, not_true_eq_false, if_false, if_true, ite_true, ite_false, Bool.false_eq_true, Bool.true_eq_false, beq_true, beq_false, beq_self_eq_true, Bool.not_true, Bool.not_false, reduceCtorEq, List.getElem?_toArray, List.getElem?_cons_zero, List.getElem?_cons_succ]
  refine s_reg ?_
  simp only [o_cont, o_callT, callV_fn, o_pure, o_eff, o_callF, o_callN, o_guard, gk_tt, gk_ff, gk_tf, gk_ft, gk_u, t_op, t_alt, t_nil, o_nil, POp.ev, Opd.ev, EOp.ev, env0, gu, gv, setD, resV, List.set, List.map, List.map_nil, List.map_cons, Option.map_none, Option.map_some, Option.some.injEq, exists_eq_left', pickV, binV, convV, load1V, max2V, min2V, nilchkV, unV, boolEq, isNilV, fadV, extV, slenV, ne_eq, not_true_eq_false, if_false, if_true, ite_true, ite_false, Bool.false_eq_true, Bool.true_eq_false, beq_true, beq_false, beq_self_eq_true, Bool.not_true, Bool.not_false, reduceCtorEq, List.getElem?_toArray, List.getElem?_cons_zero, List.getElem?_cons_succ, hs.lenV, hw]
  refine s_test ?_
  simp only [o_cont, o_callT, callV_fn, o_pure, o_eff, o_callF, o_callN, o_guard, gk_tt, gk_ff, gk_tf, gk_ft, gk_u, t_op, t_alt, t_nil, o_nil, POp.ev, Opd.ev, EOp.ev, env0, gu, gv, setD, resV, List.set, List.map, List.map_nil, List.map_cons, Option.map_none, Option.map_some, Option.some.injEq, exists_eq_left', pickV, binV, convV, load1V, max2V, min2V, nilchkV, unV, boolEq, isNilV, fadV, extV, slenV, ne_eq, not_true_eq_false, if_false, if_true, ite_true, ite_false, Bool.false_eq_true, Bool.true_eq_false, beq_true, beq_false, beq_self_eq_true, Bool.not_true, Bool.not_false, reduceCtorEq, List.getElem?_toArray, List.getElem?_cons_zero, List.getElem?_cons_succ]
  refine Test.split (fun h => ?_) (fun h => ?_)
  · refine s_reg ?_
    simp only [o_cont, o_callT, callV_fn, o_pure, o_eff, o_callF, o_callN, o_guard, gk_tt, gk_ff, gk_tf, gk_ft, gk_u, t_op, t_alt, t_nil, o_nil, POp.ev, Opd.ev, EOp.ev, env0, gu, gv, setD, resV, List.set, List.map, List.map_nil, List.map_cons, Option.map_none, Option.map_some, Option.some.injEq, exists_eq_left', pickV, binV, convV, load1V, max2V, min2V, nilchkV, unV, boolEq, isNilV, fadV, extV, slenV, ne_eq, not_true_eq_false, if_false, if_true, ite_true, ite_false, Bool.false_eq_true, Bool.true_eq_false, beq_true, beq_false, beq_self_eq_true, Bool.not_true, Bool.not_false, reduceCtorEq, List.getElem?_toArray, List.getElem?_cons_zero, List.getElem?_cons_succ]
    refine s_ret1 ?_
    simp +decide only [p_seq_normal, p_seq_ret, p_seq_exit, p_block_normal, p_block_ret, p_block_exit, p_fin_ret, p_fin_normal, reduceIte, Nat.reduceEqDiff, resV, resOne, resL, gv, Option.some.injEq, exists_eq_left', Option.bind_some, Option.map_some, List.getD_cons_zero, List.getD_cons_succ]
    exact ⟨⟨-1, rfl, by omega⟩, trivial⟩
  have hge : 0 ≤ left - (ss.length : Int) := by simpa using h
  refine s_skip1 ?_
  simp +decide only [p_seq_normal, p_seq_ret, p_seq_exit, p_block_normal, p_block_ret, p_block_exit, p_fin_ret, p_fin_normal, reduceIte, Nat.reduceEqDiff, resV, resOne, resL, gv, Option.some.injEq, exists_eq_left', Option.bind_some, Option.map_some, List.getD_cons_zero, List.getD_cons_succ]
  refine s_assoc (s_reg ?_)
  simp only [o_cont, o_callT, callV_fn, o_pure, o_eff, o_callF, o_callN, o_guard, gk_tt, gk_ff, gk_tf, gk_ft, gk_u, t_op, t_alt, t_nil, o_nil, POp.ev, Opd.ev, EOp.ev, env0, gu, gv, setD, resV, List.set, List.map, List.map_nil, List.map_cons, Option.map_none, Option.map_some, Option.some.injEq, exists_eq_left', pickV, binV, convV, load1V, max2V, min2V, nilchkV, unV, boolEq, isNilV, fadV, extV, slenV, ne_eq, not_true_eq_false, if_false, if_true, ite_true, ite_false, Bool.false_eq_true, Bool.true_eq_false, beq_true, beq_false, beq_self_eq_true, Bool.not_true, Bool.not_false, reduceCtorEq, List.getElem?_toArray, List.getElem?_cons_zero, List.getElem?_cons_succ]
  refine s_block ?_
  refine s_loop1 (fun j e' H' => H' = H ∧ ∃ (i : Nat), i + j = ss.length ∧ 0 ≤ left - (ss.length : Int) - tot (ss.take i) ∧ e' = [s, .int .i64 (left - (ss.length : Int) - tot (ss.take i)), .int .i64 0, .int .i64 i]) ss.length ⟨rfl, 0, by omega, by simpa [tot] using hge, by simp [tot]⟩ ?_
  rintro j e' H ⟨rfl, i, hij, hnn, rfl⟩
  refine s_test ?_
  simp only [o_cont, o_callT, callV_fn, o_pure, o_eff, o_callF, o_callN, o_guard, gk_tt, gk_ff, gk_tf, gk_ft, gk_u, t_op, t_alt, t_nil, o_nil, POp.ev, Opd.ev, EOp.ev, env0, gu, gv, setD, resV, List.set, List.map, List.map_nil, List.map_cons, Option.map_none, Option.map_some, Option.some.injEq, exists_eq_left', pickV, binV, convV, load1V, max2V, min2V, nilchkV, unV, boolEq, isNilV, fadV, extV, slenV, ne_eq, not_true_eq_false, if_false, if_true, ite_true, ite_false, Bool.false_eq_true, Bool.true_eq_false, beq_true, beq_false, beq_self_eq_true, Bool.not_true, Bool.not_false, reduceCtorEq, List.getElem?_toArray, List.getElem?_cons_zero, List.getElem?_cons_succ, hs.lenV]
  refine Test.split (fun hlt => ?_) (fun hlt => ?_)
  · have hlt' : i < ss.length := by simpa using hlt
    obtain ⟨b1, o1, s1, k1, k2, k3⟩ := hs.at hlt'
    have hpl := hn2 _ (List.getElem_mem hlt')
    have htk := tot_take_succ hlt'
    refine s_skip1 ?_
    simp +decide only [p_seq_normal, p_seq_ret, p_seq_exit, p_block_normal, p_block_ret, p_block_exit, p_fin_ret, p_fin_normal, reduceIte, Nat.reduceEqDiff, resV, resOne, resL, gv, Option.some.injEq, exists_eq_left', Option.bind_some, Option.map_some, List.getD_cons_zero, List.getD_cons_succ]
    refine s_block ?_
    refine s_reg ?_
    simp only [o_cont, o_callT, callV_fn, o_pure, o_eff, o_callF, o_callN, o_guard, gk_tt, gk_ff, gk_tf, gk_ft, gk_u, t_op, t_alt, t_nil, o_nil, POp.ev, Opd.ev, EOp.ev, env0, gu, gv, setD, resV, List.set, List.map, List.map_nil, List.map_cons, Option.map_none, Option.map_some, Option.some.injEq, exists_eq_left', pickV, binV, convV, load1V, max2V, min2V, nilchkV, unV, boolEq, isNilV, fadV, extV, slenV, ne_eq, not_true_eq_false, if_false, if_true, ite_true, ite_false, Bool.false_eq_true, Bool.true_eq_false, beq_true, beq_false, beq_self_eq_true, Bool.not_true, Bool.not_false, reduceCtorEq, List.getElem?_toArray, List.getElem?_cons_zero, List.getElem?_cons_succ, k1, k2]
    refine (szTermS_ok _ _ _ _ _ k3.lenV (by omega) (by omega) hpl).eq ?_
    by_cases hc : left - (ss.length : Int) - tot (ss.take i) - ss[i].length < 0
    · rw [if_pos hc]
      have d1 : decide ((-1 : Int) < 0) = true := by decide
      simp only [o_cont, o_callT, callV_fn, o_pure, o_eff, o_callF, o_callN, o_guard, gk_tt, gk_ff, gk_tf, gk_ft, gk_u, t_op, t_alt, t_nil, o_nil, POp.ev, Opd.ev, EOp.ev, env0, gu, gv, setD, resV, List.set, List.map, List.map_nil, List.map_cons, Option.map_none, Option.map_some, Option.some.injEq, exists_eq_left', pickV, binV, convV, load1V, max2V, min2V, nilchkV, unV, boolEq, isNilV, fadV, extV, slenV, ne_eq, not_true_eq_false, if_false, if_true, ite_true, ite_false, Bool.false_eq_true, Bool.true_eq_false, beq_true, beq_false, beq_self_eq_true, Bool.not_true, Bool.not_false, reduceCtorEq, List.getElem?_toArray, List.getElem?_cons_zero, List.getElem?_cons_succ]
      refine s_test1 ?_
      simp only [o_cont, o_callT, callV_fn, o_pure, o_eff, o_callF, o_callN, o_guard, gk_tt, gk_ff, gk_tf, gk_ft, gk_u, t_op, t_alt, t_nil, o_nil, POp.ev, Opd.ev, EOp.ev, env0, gu, gv, setD, resV, List.set, List.map, List.map_nil, List.map_cons, Option.map_none, Option.map_some, Option.some.injEq, exists_eq_left', pickV, binV, convV, load1V, max2V, min2V, nilchkV, unV, boolEq, isNilV, fadV, extV, slenV, ne_eq, not_true_eq_false, if_false, if_true, ite_true, ite_false, Bool.false_eq_true, Bool.true_eq_false, beq_true, beq_false, beq_self_eq_true, Bool.not_true, Bool.not_false, reduceCtorEq, List.getElem?_toArray, List.getElem?_cons_zero, List.getElem?_cons_succ, d1]
      refine Test.true_ (s_reg ?_)
      simp only [o_cont, o_callT, callV_fn, o_pure, o_eff, o_callF, o_callN, o_guard, gk_tt, gk_ff, gk_tf, gk_ft, gk_u, t_op, t_alt, t_nil, o_nil, POp.ev, Opd.ev, EOp.ev, env0, gu, gv, setD, resV, List.set, List.map, List.map_nil, List.map_cons, Option.map_none, Option.map_some, Option.some.injEq, exists_eq_left', pickV, binV, convV, load1V, max2V, min2V, nilchkV, unV, boolEq, isNilV, fadV, extV, slenV, ne_eq, not_true_eq_false, if_false, if_true, ite_true, ite_false, Bool.false_eq_true, Bool.true_eq_false, beq_true, beq_false, beq_self_eq_true, Bool.not_true, Bool.not_false, reduceCtorEq, List.getElem?_toArray, List.getElem?_cons_zero, List.getElem?_cons_succ]
      refine s_ret1 ?_
      simp +decide only [p_seq_normal, p_seq_ret, p_seq_exit, p_block_normal, p_block_ret, p_block_exit, p_fin_ret, p_fin_normal, reduceIte, Nat.reduceEqDiff, resV, resOne, resL, gv, Option.some.injEq, exists_eq_left', Option.bind_some, Option.map_some, List.getD_cons_zero, List.getD_cons_succ]
      exact ⟨⟨-1, rfl, by omega⟩, trivial⟩
    · rw [if_neg hc]
      have d1 : decide (left - (ss.length : Int) - tot (ss.take i) - ss[i].length < 0) = false := by simpa using hc
      simp only [o_cont, o_callT, callV_fn, o_pure, o_eff, o_callF, o_callN, o_guard, gk_tt, gk_ff, gk_tf, gk_ft, gk_u, t_op, t_alt, t_nil, o_nil, POp.ev, Opd.ev, EOp.ev, env0, gu, gv, setD, resV, List.set, List.map, List.map_nil, List.map_cons, Option.map_none, Option.map_some, Option.some.injEq, exists_eq_left', pickV, binV, convV, load1V, max2V, min2V, nilchkV, unV, boolEq, isNilV, fadV, extV, slenV, ne_eq, not_true_eq_false, if_false, if_true, ite_true, ite_false, Bool.false_eq_true, Bool.true_eq_false, beq_true, beq_false, beq_self_eq_true, Bool.not_true, Bool.not_false, reduceCtorEq, List.getElem?_toArray, List.getElem?_cons_zero, List.getElem?_cons_succ]
      refine s_test1 ?_
      simp only [o_cont, o_callT, callV_fn, o_pure, o_eff, o_callF, o_callN, o_guard, gk_tt, gk_ff, gk_tf, gk_ft, gk_u, t_op, t_alt, t_nil, o_nil, POp.ev, Opd.ev, EOp.ev, env0, gu, gv, setD, resV, List.set, List.map, List.map_nil, List.map_cons, Option.map_none, Option.map_some, Option.some.injEq, exists_eq_left', pickV, binV, convV, load1V, max2V, min2V, nilchkV, unV, boolEq, isNilV, fadV, extV, slenV, ne_eq, not_true_eq_false, if_false, if_true, ite_true, ite_false, Bool.false_eq_true, Bool.true_eq_false, beq_true, beq_false, beq_self_eq_true, Bool.not_true, Bool.not_false, reduceCtorEq, List.getElem?_toArray, List.getElem?_cons_zero, List.getElem?_cons_succ, d1]
      refine Test.false_ (s_skip1 ?_)
      simp +decide only [p_seq_normal, p_seq_ret, p_seq_exit, p_block_normal, p_block_ret, p_block_exit, p_fin_ret, p_fin_normal, reduceIte, Nat.reduceEqDiff, resV, resOne, resL, gv, Option.some.injEq, exists_eq_left', Option.bind_some, Option.map_some, List.getD_cons_zero, List.getD_cons_succ]
      refine s_reg1 ?_
      simp only [o_cont, o_callT, callV_fn, o_pure, o_eff, o_callF, o_callN, o_guard, gk_tt, gk_ff, gk_tf, gk_ft, gk_u, t_op, t_alt, t_nil, o_nil, POp.ev, Opd.ev, EOp.ev, env0, gu, gv, setD, resV, List.set, List.map, List.map_nil, List.map_cons, Option.map_none, Option.map_some, Option.some.injEq, exists_eq_left', pickV, binV, convV, load1V, max2V, min2V, nilchkV, unV, boolEq, isNilV, fadV, extV, slenV, ne_eq, not_true_eq_false, if_false, if_true, ite_true, ite_false, Bool.false_eq_true, Bool.true_eq_false, beq_true, beq_false, beq_self_eq_true, Bool.not_true, Bool.not_false, reduceCtorEq, List.getElem?_toArray, List.getElem?_cons_zero, List.getElem?_cons_succ, add1 (i := i) (by omega)]
      simp +decide only [p_seq_normal, p_seq_ret, p_seq_exit, p_block_normal, p_block_ret, p_block_exit, p_fin_ret, p_fin_normal, reduceIte, Nat.reduceEqDiff, resV, resOne, resL, gv, Option.some.injEq, exists_eq_left', Option.bind_some, Option.map_some, List.getD_cons_zero, List.getD_cons_succ]
      exact Round.mk (j - 1) (by omega) ⟨rfl, i + 1, by omega, by omega, by rw [htk]; congr 3; simp; omega⟩
  · have hge : i = ss.length := by simp at hlt; omega
    subst hge
    refine s_exit1 ?_
    simp +decide only [p_seq_normal, p_seq_ret, p_seq_exit, p_block_normal, p_block_ret, p_block_exit, p_fin_ret, p_fin_normal, reduceIte, Nat.reduceEqDiff, resV, resOne, resL, gv, Option.some.injEq, exists_eq_left', Option.bind_some, Option.map_some, List.getD_cons_zero, List.getD_cons_succ]
    refine s_reg ?_
    simp only [o_cont, o_callT, callV_fn, o_pure, o_eff, o_callF, o_callN, o_guard, gk_tt, gk_ff, gk_tf, gk_ft, gk_u, t_op, t_alt, t_nil, o_nil, POp.ev, Opd.ev, EOp.ev, env0, gu, gv, setD, resV, List.set, List.map, List.map_nil, List.map_cons, Option.map_none, Option.map_some, Option.some.injEq, exists_eq_left', pickV, binV, convV, load1V, max2V, min2V, nilchkV, unV, boolEq, isNilV, fadV, extV, slenV, ne_eq, not_true_eq_false, if_false, if_true, ite_true, ite_false, Bool.false_eq_true, Bool.true_eq_false, beq_true, beq_false, beq_self_eq_true, Bool.not_true, Bool.not_false, reduceCtorEq, List.getElem?_toArray, List.getElem?_cons_zero, List.getElem?_cons_succ]
    refine s_ret1 ?_
    simp +decide only [p_seq_normal, p_seq_ret, p_seq_exit, p_block_normal, p_block_ret, p_block_exit, p_fin_ret, p_fin_normal, reduceIte, Nat.reduceEqDiff, resV, resOne, resL, gv, Option.some.injEq, exists_eq_left', Option.bind_some, Option.map_some, List.getD_cons_zero, List.getD_cons_succ]
    rw [List.take_length] at hnn ⊢
    exact ⟨⟨_, rfl, by omega⟩, trivial⟩

theorem eqTermSS_ok (lim : Nat) (s t : Value) (ss : List (List Tm)) (H : AHeap) (hs : SlSS H s ss) (ht : SlSS H t ss) (hn : ss.length ≤ 1000000000) (hn2 : ∀ p ∈ ss, p.length ≤ 1000000000) :
    ACalls Try.prog lim n_laws_eqTermSS [s, t] H fun v H' => v = .bool true ∧ Ext H H' := by
  refine is_laws_eqTermSS.go rfl ?_
  unfold c_laws_eqTermSS
  refine s_reg ?_
  simp only [o_cont, o_callT, callV_fn, o_pure, o_eff, o_callF, o_callN, o_guard, gk_tt, gk_ff, gk_tf, gk_ft, gk_u, t_op, t_alt, t_nil, o_nil, POp.ev, Opd.ev, EOp.ev, env0, gu, gv, setD, resV, List.set, List.map, List.map_nil, List.map_cons, Option.map_none, Option.map_some, Option.some.injEq, exists_eq_left', pickV, binV, convV, load1V, max2V, min2V, nilchkV, unV, boolEq, isNilV, fadV, extV, slenV, ne_eq, not_true_eq_false, if_false, if_true, ite_true, ite_false, Bool.false_eq_true, Bool.true_eq_false, beq_true, beq_false, beq_self_eq_true, Bool.not_true, Bool.not_false, reduceCtorEq, List.getElem?_toArray, List.getElem?_cons_zero, List.getElem?_cons_succ]
  have hne : ((ss.length : Int) != (ss.length : Int)) = false := by simp
  refine s_test ?_
  simp only [o_cont, o_callT, callV_fn, o_pure, o_eff, o_callF, o_callN, o_guard, gk_tt, gk_ff, gk_tf, gk_ft, gk_u, t_op, t_alt, t_nil, o_nil, POp.ev, Opd.ev, EOp.ev, env0, gu, gv, setD, resV, List.set, List.map, List.map_nil, List.map_cons, Option.map_none, Option.map_some, Option.some.injEq, exists_eq_left', pickV, binV, convV, load1V, max2V, min2V, nilchkV, unV, boolEq, isNilV, fadV, extV, slenV, ne_eq, not_true_eq_false, if_false, if_true, ite_true, ite_false, Bool.false_eq_true, Bool.true_eq_false, beq_true, beq_false, beq_self_eq_true, Bool.not_true, Bool.not_false, reduceCtorEq, List.getElem?_toArray, List.getElem?_cons_zero, List.getElem?_cons_succ, hs.lenV, ht.lenV, hne]
  refine Test.false_ (s_skip1 ?_)
  simp +decide only [p_seq_normal, p_seq_ret, p_seq_exit, p_block_normal, p_block_ret, p_block_exit, p_fin_ret, p_fin_normal, reduceIte, Nat.reduceEqDiff, resV, resOne, resL, gv, Option.some.injEq, exists_eq_left', Option.bind_some, Option.map_some, List.getD_cons_zero, List.getD_cons_succ]
  refine s_assoc (s_reg ?_)
  simp only [o_cont, o_callT, callV_fn, o_pure, o_eff, o_callF, o_callN, o_guard, gk_tt, gk_ff, gk_tf, gk_ft, gk_u, t_op, t_alt, t_nil, o_nil, POp.ev, Opd.ev, EOp.ev, env0, gu, gv, setD, resV, List.set, List.map, List.map_nil, List.map_cons, Option.map_none, Option.map_some, Option.some.injEq, exists_eq_left', pickV, binV, convV, load1V, max2V, min2V, nilchkV, unV, boolEq, isNilV, fadV, extV, slenV, ne_eq, not_true_eq_false, if_false, if_true, ite_true, ite_false, Bool.false_eq_true, Bool.true_eq_false, beq_true, beq_false, beq_self_eq_true, Bool.not_true, Bool.not_false, reduceCtorEq, List.getElem?_toArray, List.getElem?_cons_zero, List.getElem?_cons_succ]
  refine s_block ?_
  refine s_loop1 (fun k e' H' => ∃ i, i + k = ss.length ∧ Ext H H' ∧ e' = [s, t, .bool false, .int .i64 i]) ss.length ⟨0, by omega, Ext.refl _, rfl⟩ ?_
  rintro k e' H' ⟨i, hik, hx, rfl⟩
  refine s_test ?_
  simp only [o_cont, o_callT, callV_fn, o_pure, o_eff, o_callF, o_callN, o_guard, gk_tt, gk_ff, gk_tf, gk_ft, gk_u, t_op, t_alt, t_nil, o_nil, POp.ev, Opd.ev, EOp.ev, env0, gu, gv, setD, resV, List.set, List.map, List.map_nil, List.map_cons, Option.map_none, Option.map_some, Option.some.injEq, exists_eq_left', pickV, binV, convV, load1V, max2V, min2V, nilchkV, unV, boolEq, isNilV, fadV, extV, slenV, ne_eq, not_true_eq_false, if_false, if_true, ite_true, ite_false, Bool.false_eq_true, Bool.true_eq_false, beq_true, beq_false, beq_self_eq_true, Bool.not_true, Bool.not_false, reduceCtorEq, List.getElem?_toArray, List.getElem?_cons_zero, List.getElem?_cons_succ, hs.lenV]
  refine Test.split (fun hlt => ?_) (fun hlt => ?_)
  · have hlt' : i < ss.length := by simpa using hlt
    obtain ⟨b1, o1, s1, h1, k1, m1⟩ := (hs.ext hx).at hlt'
    obtain ⟨b2, o2, s2, h2, k2, m2⟩ := (ht.ext hx).at hlt'
    refine s_skip1 ?_
    simp +decide only [p_seq_normal, p_seq_ret, p_seq_exit, p_block_normal, p_block_ret, p_block_exit, p_fin_ret, p_fin_normal, reduceIte, Nat.reduceEqDiff, resV, resOne, resL, gv, Option.some.injEq, exists_eq_left', Option.bind_some, Option.map_some, List.getD_cons_zero, List.getD_cons_succ]
    refine s_block ?_
    refine s_test1 ?_
    simp only [o_cont, o_callT, callV_fn, o_pure, o_eff, o_callF, o_callN, o_guard, gk_tt, gk_ff, gk_tf, gk_ft, gk_u, t_op, t_alt, t_nil, o_nil, POp.ev, Opd.ev, EOp.ev, env0, gu, gv, setD, resV, List.set, List.map, List.map_nil, List.map_cons, Option.map_none, Option.map_some, Option.some.injEq, exists_eq_left', pickV, binV, convV, load1V, max2V, min2V, nilchkV, unV, boolEq, isNilV, fadV, extV, slenV, ne_eq, not_true_eq_false, if_false, if_true, ite_true, ite_false, Bool.false_eq_true, Bool.true_eq_false, beq_true, beq_false, beq_self_eq_true, Bool.not_true, Bool.not_false, reduceCtorEq, List.getElem?_toArray, List.getElem?_cons_zero, List.getElem?_cons_succ, h1, k1, h2, k2]
    refine (eqTermS_ok _ _ _ _ _ m1 m2 (hn2 _ (List.getElem_mem hlt'))).mono ?_
    rintro _ H2 ⟨rfl, hx2⟩
    simp only [o_cont, o_callT, callV_fn, o_pure, o_eff, o_callF, o_callN, o_guard, gk_tt, gk_ff, gk_tf, gk_ft, gk_u, t_op, t_alt, t_nil, o_nil, POp.ev, Opd.ev, EOp.ev, env0, gu, gv, setD, resV, List.set, List.map, List.map_nil, List.map_cons, Option.map_none, Option.map_some, Option.some.injEq, exists_eq_left', pickV, binV, convV, load1V, max2V, min2V, nilchkV, unV, boolEq, isNilV, fadV, extV, slenV, ne_eq, not_true_eq_false, if_false, if_true, ite_true, ite_false, Bool.false_eq_true, Bool.true_eq_false, beq_true, beq_false, beq_self_eq_true, Bool.not_true, Bool.not_false, reduceCtorEq, List.getElem?_toArray, List.getElem?_cons_zero, List.getElem?_cons_succ]
    refine Test.false_ (s_skip1 ?_)
    simp +decide only [p_seq_normal, p_seq_ret, p_seq_exit, p_block_normal, p_block_ret, p_block_exit, p_fin_ret, p_fin_normal, reduceIte, Nat.reduceEqDiff, resV, resOne, resL, gv, Option.some.injEq, exists_eq_left', Option.bind_some, Option.map_some, List.getD_cons_zero, List.getD_cons_succ]
    refine s_reg1 ?_
    simp only [o_cont, o_callT, callV_fn, o_pure, o_eff, o_callF, o_callN, o_guard, gk_tt, gk_ff, gk_tf, gk_ft, gk_u, t_op, t_alt, t_nil, o_nil, POp.ev, Opd.ev, EOp.ev, env0, gu, gv, setD, resV, List.set, List.map, List.map_nil, List.map_cons, Option.map_none, Option.map_some, Option.some.injEq, exists_eq_left', pickV, binV, convV, load1V, max2V, min2V, nilchkV, unV, boolEq, isNilV, fadV, extV, slenV, ne_eq, not_true_eq_false, if_false, if_true, ite_true, ite_false, Bool.false_eq_true, Bool.true_eq_false, beq_true, beq_false, beq_self_eq_true, Bool.not_true, Bool.not_false, reduceCtorEq, List.getElem?_toArray, List.getElem?_cons_zero, List.getElem?_cons_succ, add1 (i := i) (by omega)]
    simp +decide only [p_seq_normal, p_seq_ret, p_seq_exit, p_block_normal, p_block_ret, p_block_exit, p_fin_ret, p_fin_normal, reduceIte, Nat.reduceEqDiff, resV, resOne, resL, gv, Option.some.injEq, exists_eq_left', Option.bind_some, Option.map_some, List.getD_cons_zero, List.getD_cons_succ]
    exact Round.mk (k - 1) (by omega) ⟨i + 1, by omega, hx.trans hx2, rfl⟩
  · refine s_exit1 ?_
    simp +decide only [p_seq_normal, p_seq_ret, p_seq_exit, p_block_normal, p_block_ret, p_block_exit, p_fin_ret, p_fin_normal, reduceIte, Nat.reduceEqDiff, resV, resOne, resL, gv, Option.some.injEq, exists_eq_left', Option.bind_some, Option.map_some, List.getD_cons_zero, List.getD_cons_succ]
    refine s_reg ?_
    simp only [o_cont, o_callT, callV_fn, o_pure, o_eff, o_callF, o_callN, o_guard, gk_tt, gk_ff, gk_tf, gk_ft, gk_u, t_op, t_alt, t_nil, o_nil, POp.ev, Opd.ev, EOp.ev, env0, gu, gv, setD, resV, List.set, List.map, List.map_nil, List.map_cons, Option.map_none, Option.map_some, Option.some.injEq, exists_eq_left', pickV, binV, convV, load1V, max2V, min2V, nilchkV, unV, boolEq, isNilV, fadV, extV, slenV, ne_eq, not_true_eq_false, if_false, if_true, ite_true, ite_false, Bool.false_eq_true, Bool.true_eq_false, beq_true, beq_false, beq_self_eq_true, Bool.not_true, Bool.not_false, reduceCtorEq, List.getElem?_toArray, List.getElem?_cons_zero, List.getElem?_cons_succ]
    refine s_ret1 ?_
    simp +decide only [p_seq_normal, p_seq_ret, p_seq_exit, p_block_normal, p_block_ret, p_block_exit, p_fin_ret, p_fin_normal, reduceIte, Nat.reduceEqDiff, resV, resOne, resL, gv, Option.some.injEq, exists_eq_left', Option.bind_some, Option.map_some, List.getD_cons_zero, List.getD_cons_succ]
    exact ⟨trivial, hx⟩

/-- the polynomials' terms numbered one after another -/
def mkSS : Int → List (List Tm) → List (List Tm)
  | _, [] => []
  | k, p :: l => mkT k p.length :: mkSS (k + 4 * p.length) l
theorem mkSS_length : ∀ (k : Int) (ss : List (List Tm)), (mkSS k ss).length = ss.length
  | _, [] => rfl
  | k, p :: l => by simp [mkSS, mkSS_length]
theorem mkSS_get : ∀ (k : Int) (ss : List (List Tm)) (i : Nat) (h : i < ss.length), (mkSS k ss)[i]? = some (mkT (k + 4 * tot (ss.take i)) ss[i].length)
  | _, [], i, h => by simp at h
  | k, p :: l, 0, h => by simp [mkSS, tot]
  | k, p :: l, i + 1, h => by
    have := mkSS_get (k + 4 * p.length) l i (by simpa using h)
    simp only [mkSS, List.getElem?_cons_succ, List.take_succ_cons, tot_cons, List.getElem_cons_succ]
    rw [this]
    congr 2
    push_cast
    omega

theorem markTermSS_ok (lim lo hi : Nat) (s : Value) (ss : List (List Tm)) (k : Int) (H : AHeap) (hl : lim ≤ lo) (hs : OwnSS H lo hi s ss) (hn : ss.length ≤ 1000000) (hn2 : tot ss ≤ 1000000) (h0 : 0 ≤ k) (hk : k ≤ 1000000) :
    ACalls Try.prog lim n_laws_markTermSS [s, .int .i64 k] H fun v H' => v = .int .i64 (k + 4 * tot ss) ∧ OwnSS H' lo hi s (mkSS k ss) ∧ Out lo hi H H' ∧ H'.next = H.next := by
  have hlen := mkSS_length k ss
  refine is_laws_markTermSS.go rfl ?_
  unfold c_laws_markTermSS
  have hlv := hs.slss.lenV
  refine s_reg ?_
  simp only [o_cont, o_callT, callV_fn, o_pure, o_eff, o_callF, o_callN, o_guard, gk_tt, gk_ff, gk_tf, gk_ft, gk_u, t_op, t_alt, t_nil, o_nil, POp.ev, Opd.ev, EOp.ev, env0, gu, gv, setD, resV, List.set, List.map, List.map_nil, List.map_cons, Option.map_none, Option.map_some, Option.some.injEq, exists_eq_left', pickV, binV, convV, load1V, max2V, min2V, nilchkV, unV, boolEq, isNilV, fadV, extV, slenV, ne_eq, not_true_eq_false, if_false, if_true, ite_true, ite_false, Bool.false_eq_true, Bool.true_eq_false, beq_true, beq_false, beq_self_eq_true, Bool.not_true, Bool.not_false, reduceCtorEq, List.getElem?_toArray, List.getElem?_cons_zero, List.getElem?_cons_succ]
  refine s_assoc (s_reg ?_)
  simp only [o_cont, o_callT, callV_fn, o_pure, o_eff, o_callF, o_callN, o_guard, gk_tt, gk_ff, gk_tf, gk_ft, gk_u, t_op, t_alt, t_nil, o_nil, POp.ev, Opd.ev, EOp.ev, env0, gu, gv, setD, resV, List.set, List.map, List.map_nil, List.map_cons, Option.map_none, Option.map_some, Option.some.injEq, exists_eq_left', pickV, binV, convV, load1V, max2V, min2V, nilchkV, unV, boolEq, isNilV, fadV, extV, slenV, ne_eq, not_true_eq_false, if_false, if_true, ite_true, ite_false, Bool.false_eq_true, Bool.true_eq_false, beq_true, beq_false, beq_self_eq_true, Bool.not_true, Bool.not_false, reduceCtorEq, List.getElem?_toArray, List.getElem?_cons_zero, List.getElem?_cons_succ]
  refine s_block ?_
  rcases hs with ⟨rfl, rfl⟩ | ⟨b, vs, bs, hX⟩
  · refine s_loop1 (fun j e' H' => H' = H ∧ e' = [.slice none 0 0, .int .i64 k, .int .i64 0, .int .i64 0]) 0 ⟨rfl, rfl⟩ ?_
    rintro j e' H ⟨rfl, rfl⟩
    have hz : decide ((0 : Int) < ((0 : Nat) : Int)) = false := by decide
    refine s_test ?_
    simp only [o_cont, o_callT, callV_fn, o_pure, o_eff, o_callF, o_callN, o_guard, gk_tt, gk_ff, gk_tf, gk_ft, gk_u, t_op, t_alt, t_nil, o_nil, POp.ev, Opd.ev, EOp.ev, env0, gu, gv, setD, resV, List.set, List.map, List.map_nil, List.map_cons, Option.map_none, Option.map_some, Option.some.injEq, exists_eq_left', pickV, binV, convV, load1V, max2V, min2V, nilchkV, unV, boolEq, isNilV, fadV, extV, slenV, ne_eq, not_true_eq_false, if_false, if_true, ite_true, ite_false, Bool.false_eq_true, Bool.true_eq_false, beq_true, beq_false, beq_self_eq_true, Bool.not_true, Bool.not_false, reduceCtorEq, List.getElem?_toArray, List.getElem?_cons_zero, List.getElem?_cons_succ, lenV, hz]
    refine Test.false_ (s_exit1 ?_)
    simp +decide only [p_seq_normal, p_seq_ret, p_seq_exit, p_block_normal, p_block_ret, p_block_exit, p_fin_ret, p_fin_normal, reduceIte, Nat.reduceEqDiff, resV, resOne, resL, gv, Option.some.injEq, exists_eq_left', Option.bind_some, Option.map_some, List.getD_cons_zero, List.getD_cons_succ]
    refine s_reg ?_
    simp only [o_cont, o_callT, callV_fn, o_pure, o_eff, o_callF, o_callN, o_guard, gk_tt, gk_ff, gk_tf, gk_ft, gk_u, t_op, t_alt, t_nil, o_nil, POp.ev, Opd.ev, EOp.ev, env0, gu, gv, setD, resV, List.set, List.map, List.map_nil, List.map_cons, Option.map_none, Option.map_some, Option.some.injEq, exists_eq_left', pickV, binV, convV, load1V, max2V, min2V, nilchkV, unV, boolEq, isNilV, fadV, extV, slenV, ne_eq, not_true_eq_false, if_false, if_true, ite_true, ite_false, Bool.false_eq_true, Bool.true_eq_false, beq_true, beq_false, beq_self_eq_true, Bool.not_true, Bool.not_false, reduceCtorEq, List.getElem?_toArray, List.getElem?_cons_zero, List.getElem?_cons_succ]
    refine s_ret1 ?_
    simp +decide only [p_seq_normal, p_seq_ret, p_seq_exit, p_block_normal, p_block_ret, p_block_exit, p_fin_ret, p_fin_normal, reduceIte, Nat.reduceEqDiff, resV, resOne, resL, gv, Option.some.injEq, exists_eq_left', Option.bind_some, Option.map_some, List.getD_cons_zero, List.getD_cons_succ]
    exact ⟨by simp [tot], .inl ⟨rfl, rfl⟩, Out.refl _ _ _, trivial⟩
  refine s_loop1 (fun j e' H' => ∃ (i : Nat), i + j = ss.length ∧ OwnX H' lo hi b vs bs s ((mkSS k ss).take i ++ ss.drop i) ∧ Out lo hi H H' ∧ H'.next = H.next ∧ e' = [s, .int .i64 (k + 4 * tot (ss.take i)), .int .i64 0, .int .i64 i]) ss.length ⟨0, by omega, by simpa using hX, Out.refl _ _ _, rfl, by simp [tot]⟩ ?_
  rintro j e' H' ⟨i, hij, hv, hc, hnx, rfl⟩
  have hL : ((mkSS k ss).take i ++ ss.drop i).length = ss.length := by simp [hlen]; omega
  have htl := tot_take_le ss i
  refine s_test ?_
  simp only [o_cont, o_callT, callV_fn, o_pure, o_eff, o_callF, o_callN, o_guard, gk_tt, gk_ff, gk_tf, gk_ft, gk_u, t_op, t_alt, t_nil, o_nil, POp.ev, Opd.ev, EOp.ev, env0, gu, gv, setD, resV, List.set, List.map, List.map_nil, List.map_cons, Option.map_none, Option.map_some, Option.some.injEq, exists_eq_left', pickV, binV, convV, load1V, max2V, min2V, nilchkV, unV, boolEq, isNilV, fadV, extV, slenV, ne_eq, not_true_eq_false, if_false, if_true, ite_true, ite_false, Bool.false_eq_true, Bool.true_eq_false, beq_true, beq_false, beq_self_eq_true, Bool.not_true, Bool.not_false, reduceCtorEq, List.getElem?_toArray, List.getElem?_cons_zero, List.getElem?_cons_succ, hlv]
  refine Test.split (fun hlt => ?_) (fun hlt => ?_)
  · have hlt' : i < ss.length := by simpa using hlt
    have hget : ((mkSS k ss).take i ++ ss.drop i)[i]? = some ss[i] := by
      rw [List.getElem?_append_right (by simp; omega)]
      simp [hlen, Nat.min_eq_left (Nat.le_of_lt hlt')]
    have hle := len_le_tot hlt'
    have htk := tot_take_succ hlt'
    obtain ⟨s1, c, g1, g2, g3⟩ := hv.el i _ hget
    have hcr := hv.rngs c (List.mem_of_getElem? g2)
    have i1 := Vec.iad hv.vec .i64 (show i < _ by omega)
    rw [Nat.mul_one] at i1
    have i2 := Vec.cell hv.vec g1
    refine s_skip1 ?_
    simp +decide only [p_seq_normal, p_seq_ret, p_seq_exit, p_block_normal, p_block_ret, p_block_exit, p_fin_ret, p_fin_normal, reduceIte, Nat.reduceEqDiff, resV, resOne, resL, gv, Option.some.injEq, exists_eq_left', Option.bind_some, Option.map_some, List.getD_cons_zero, List.getD_cons_succ]
    refine s_block ?_
    refine s_reg1 ?_
    simp only [o_cont, o_callT, callV_fn, o_pure, o_eff, o_callF, o_callN, o_guard, gk_tt, gk_ff, gk_tf, gk_ft, gk_u, t_op, t_alt, t_nil, o_nil, POp.ev, Opd.ev, EOp.ev, env0, gu, gv, setD, resV, List.set, List.map, List.map_nil, List.map_cons, Option.map_none, Option.map_some, Option.some.injEq, exists_eq_left', pickV, binV, convV, load1V, max2V, min2V, nilchkV, unV, boolEq, isNilV, fadV, extV, slenV, ne_eq, not_true_eq_false, if_false, if_true, ite_true, ite_false, Bool.false_eq_true, Bool.true_eq_false, beq_true, beq_false, beq_self_eq_true, Bool.not_true, Bool.not_false, reduceCtorEq, List.getElem?_toArray, List.getElem?_cons_zero, List.getElem?_cons_succ, i1, i2]
    refine (markTermS_ok lim c s1 _ _ H' (by omega) g3 (by omega) (by omega) (by omega)).mono ?_
    rintro _ H2 ⟨rfl, m1, m2, m3⟩
    simp only [o_cont, o_callT, callV_fn, o_pure, o_eff, o_callF, o_callN, o_guard, gk_tt, gk_ff, gk_tf, gk_ft, gk_u, t_op, t_alt, t_nil, o_nil, POp.ev, Opd.ev, EOp.ev, env0, gu, gv, setD, resV, List.set, List.map, List.map_nil, List.map_cons, Option.map_none, Option.map_some, Option.some.injEq, exists_eq_left', pickV, binV, convV, load1V, max2V, min2V, nilchkV, unV, boolEq, isNilV, fadV, extV, slenV, ne_eq, not_true_eq_false, if_false, if_true, ite_true, ite_false, Bool.false_eq_true, Bool.true_eq_false, beq_true, beq_false, beq_self_eq_true, Bool.not_true, Bool.not_false, reduceCtorEq, List.getElem?_toArray, List.getElem?_cons_zero, List.getElem?_cons_succ]
    simp +decide only [p_seq_normal, p_seq_ret, p_seq_exit, p_block_normal, p_block_ret, p_block_exit, p_fin_ret, p_fin_normal, reduceIte, Nat.reduceEqDiff, resV, resOne, resL, gv, Option.some.injEq, exists_eq_left', Option.bind_some, Option.map_some, List.getD_cons_zero, List.getD_cons_succ]
    refine s_reg1 ?_
    simp only [o_cont, o_callT, callV_fn, o_pure, o_eff, o_callF, o_callN, o_guard, gk_tt, gk_ff, gk_tf, gk_ft, gk_u, t_op, t_alt, t_nil, o_nil, POp.ev, Opd.ev, EOp.ev, env0, gu, gv, setD, resV, List.set, List.map, List.map_nil, List.map_cons, Option.map_none, Option.map_some, Option.some.injEq, exists_eq_left', pickV, binV, convV, load1V, max2V, min2V, nilchkV, unV, boolEq, isNilV, fadV, extV, slenV, ne_eq, not_true_eq_false, if_false, if_true, ite_true, ite_false, Bool.false_eq_true, Bool.true_eq_false, beq_true, beq_false, beq_self_eq_true, Bool.not_true, Bool.not_false, reduceCtorEq, List.getElem?_toArray, List.getElem?_cons_zero, List.getElem?_cons_succ, add1 (i := i) (by omega)]
    simp +decide only [p_seq_normal, p_seq_ret, p_seq_exit, p_block_normal, p_block_ret, p_block_exit, p_fin_ret, p_fin_normal, reduceIte, Nat.reduceEqDiff, resV, resOne, resL, gv, Option.some.injEq, exists_eq_left', Option.bind_some, Option.map_some, List.getD_cons_zero, List.getD_cons_succ]
    refine Round.mk (j - 1) (by omega) ⟨i + 1, by omega, ?_, hc.trans (Out.of_chg m2 hcr.1 hcr.2), by omega, by rw [htk]; congr 3; push_cast; omega⟩
    have := hv.upd (show i < _ by omega) g1 g2 m2 m1
    have hset : ((mkSS k ss).take i ++ ss.drop i).set i (mkT (k + 4 * tot (ss.take i)) ss[i].length) = (mkSS k ss).take (i + 1) ++ ss.drop (i + 1) := by
      have e0 : i - ((mkSS k ss).take i).length = 0 := by simp [hlen]; omega
      rw [List.set_append_right _ _ (by simp [hlen]; omega), e0, List.drop_eq_getElem_cons hlt', List.set_cons_zero, List.take_add_one, mkSS_get k _ _ hlt']
      simp
    rw [← hset]
    exact this
  · have hge : i = ss.length := by simp at hlt; omega
    subst hge
    refine s_exit1 ?_
    simp +decide only [p_seq_normal, p_seq_ret, p_seq_exit, p_block_normal, p_block_ret, p_block_exit, p_fin_ret, p_fin_normal, reduceIte, Nat.reduceEqDiff, resV, resOne, resL, gv, Option.some.injEq, exists_eq_left', Option.bind_some, Option.map_some, List.getD_cons_zero, List.getD_cons_succ]
    refine s_reg ?_
    simp only [o_cont, o_callT, callV_fn, o_pure, o_eff, o_callF, o_callN, o_guard, gk_tt, gk_ff, gk_tf, gk_ft, gk_u, t_op, t_alt, t_nil, o_nil, POp.ev, Opd.ev, EOp.ev, env0, gu, gv, setD, resV, List.set, List.map, List.map_nil, List.map_cons, Option.map_none, Option.map_some, Option.some.injEq, exists_eq_left', pickV, binV, convV, load1V, max2V, min2V, nilchkV, unV, boolEq, isNilV, fadV, extV, slenV, ne_eq, not_true_eq_false, if_false, if_true, ite_true, ite_false, Bool.false_eq_true, Bool.true_eq_false, beq_true, beq_false, beq_self_eq_true, Bool.not_true, Bool.not_false, reduceCtorEq, List.getElem?_toArray, List.getElem?_cons_zero, List.getElem?_cons_succ]
    refine s_ret1 ?_
    simp +decide only [p_seq_normal, p_seq_ret, p_seq_exit, p_block_normal, p_block_ret, p_block_exit, p_fin_ret, p_fin_normal, reduceIte, Nat.reduceEqDiff, resV, resOne, resL, gv, Option.some.injEq, exists_eq_left', Option.bind_some, Option.map_some, List.getD_cons_zero, List.getD_cons_succ]
    rw [List.drop_length, List.append_nil, List.take_of_length_le (by omega)] at hv
    rw [List.take_length]
    exact ⟨rfl, .inr ⟨b, vs, bs, hv⟩, hc, hnx⟩

theorem heldTermSS_ok (lim : Nat) (s : Value) (ss : List (List Tm)) (k : Int) (H : AHeap) (hs : SlSS H s (mkSS k ss)) (hn : ss.length ≤ 1000000) (hn2 : tot ss ≤ 1000000) (h0 : 0 ≤ k) (hk : k ≤ 1000000) :
    ACalls Try.prog lim n_laws_heldTermSS [s, .int .i64 k] H fun v H' => v = .int .i64 (k + 4 * tot ss) ∧ H' = H := by
  have hlen := mkSS_length k ss
  refine is_laws_heldTermSS.go rfl ?_
  unfold c_laws_heldTermSS
  have hlv := hs.lenV
  rw [hlen] at hlv
  refine s_reg ?_
  simp only [o_cont, o_callT, callV_fn, o_pure, o_eff, o_callF, o_callN, o_guard, gk_tt, gk_ff, gk_tf, gk_ft, gk_u, t_op, t_alt, t_nil, o_nil, POp.ev, Opd.ev, EOp.ev, env0, gu, gv, setD, resV, List.set, List.map, List.map_nil, List.map_cons, Option.map_none, Option.map_some, Option.some.injEq, exists_eq_left', pickV, binV, convV, load1V, max2V, min2V, nilchkV, unV, boolEq, isNilV, fadV, extV, slenV, ne_eq, not_true_eq_false, if_false, if_true, ite_true, ite_false, Bool.false_eq_true, Bool.true_eq_false, beq_true, beq_false, beq_self_eq_true, Bool.not_true, Bool.not_false, reduceCtorEq, List.getElem?_toArray, List.getElem?_cons_zero, List.getElem?_cons_succ]
  refine s_assoc (s_reg ?_)
  simp only [o_cont, o_callT, callV_fn, o_pure, o_eff, o_callF, o_callN, o_guard, gk_tt, gk_ff, gk_tf, gk_ft, gk_u, t_op, t_alt, t_nil, o_nil, POp.ev, Opd.ev, EOp.ev, env0, gu, gv, setD, resV, List.set, List.map, List.map_nil, List.map_cons, Option.map_none, Option.map_some, Option.some.injEq, exists_eq_left', pickV, binV, convV, load1V, max2V, min2V, nilchkV, unV, boolEq, isNilV, fadV, extV, slenV, ne_eq, not_true_eq_false, if_false, if_true, ite_true, ite_false, Bool.false_eq_true, Bool.true_eq_false, beq_true, beq_false, beq_self_eq_true, Bool.not_true, Bool.not_false, reduceCtorEq, List.getElem?_toArray, List.getElem?_cons_zero, List.getElem?_cons_succ]
  refine s_block ?_
  refine s_loop1 (fun j e' H' => H' = H ∧ ∃ (i : Nat), i + j = ss.length ∧ e' = [s, .int .i64 (k + 4 * tot (ss.take i)), .int .i64 0, .int .i64 i]) ss.length ⟨rfl, 0, by omega, by simp [tot]⟩ ?_
  rintro j e' H ⟨rfl, i, hij, rfl⟩
  have htl := tot_take_le ss i
  refine s_test ?_
  simp only [o_cont, o_callT, callV_fn, o_pure, o_eff, o_callF, o_callN, o_guard, gk_tt, gk_ff, gk_tf, gk_ft, gk_u, t_op, t_alt, t_nil, o_nil, POp.ev, Opd.ev, EOp.ev, env0, gu, gv, setD, resV, List.set, List.map, List.map_nil, List.map_cons, Option.map_none, Option.map_some, Option.some.injEq, exists_eq_left', pickV, binV, convV, load1V, max2V, min2V, nilchkV, unV, boolEq, isNilV, fadV, extV, slenV, ne_eq, not_true_eq_false, if_false, if_true, ite_true, ite_false, Bool.false_eq_true, Bool.true_eq_false, beq_true, beq_false, beq_self_eq_true, Bool.not_true, Bool.not_false, reduceCtorEq, List.getElem?_toArray, List.getElem?_cons_zero, List.getElem?_cons_succ, hlv]
  refine Test.split (fun hlt => ?_) (fun hlt => ?_)
  · have hlt' : i < ss.length := by simpa using hlt
    have hle := len_le_tot hlt'
    have htk := tot_take_succ hlt'
    obtain ⟨b1, o1, s1, h1, k1, m1⟩ := hs.at (i := i) (by omega)
    have hx : (mkSS k ss)[i]'(by omega) = mkT (k + 4 * tot (ss.take i)) ss[i].length := by
      have := mkSS_get k ss i hlt'
      rw [List.getElem?_eq_getElem (by omega)] at this
      exact Option.some.inj this
    rw [hx] at m1
    have hneg : decide (k + 4 * (tot (ss.take i) : Int) + 4 * (ss[i].length : Int) < 0) = false := by simp; omega
    refine s_skip1 ?_
    simp +decide only [p_seq_normal, p_seq_ret, p_seq_exit, p_block_normal, p_block_ret, p_block_exit, p_fin_ret, p_fin_normal, reduceIte, Nat.reduceEqDiff, resV, resOne, resL, gv, Option.some.injEq, exists_eq_left', Option.bind_some, Option.map_some, List.getD_cons_zero, List.getD_cons_succ]
    refine s_block ?_
    refine s_reg ?_
    simp only [o_cont, o_callT, callV_fn, o_pure, o_eff, o_callF, o_callN, o_guard, gk_tt, gk_ff, gk_tf, gk_ft, gk_u, t_op, t_alt, t_nil, o_nil, POp.ev, Opd.ev, EOp.ev, env0, gu, gv, setD, resV, List.set, List.map, List.map_nil, List.map_cons, Option.map_none, Option.map_some, Option.some.injEq, exists_eq_left', pickV, binV, convV, load1V, max2V, min2V, nilchkV, unV, boolEq, isNilV, fadV, extV, slenV, ne_eq, not_true_eq_false, if_false, if_true, ite_true, ite_false, Bool.false_eq_true, Bool.true_eq_false, beq_true, beq_false, beq_self_eq_true, Bool.not_true, Bool.not_false, reduceCtorEq, List.getElem?_toArray, List.getElem?_cons_zero, List.getElem?_cons_succ, h1, k1]
    refine (heldTermS_ok _ _ _ _ _ m1 (by omega) (by omega) (by omega)).eq ?_
    simp only [o_cont, o_callT, callV_fn, o_pure, o_eff, o_callF, o_callN, o_guard, gk_tt, gk_ff, gk_tf, gk_ft, gk_u, t_op, t_alt, t_nil, o_nil, POp.ev, Opd.ev, EOp.ev, env0, gu, gv, setD, resV, List.set, List.map, List.map_nil, List.map_cons, Option.map_none, Option.map_some, Option.some.injEq, exists_eq_left', pickV, binV, convV, load1V, max2V, min2V, nilchkV, unV, boolEq, isNilV, fadV, extV, slenV, ne_eq, not_true_eq_false, if_false, if_true, ite_true, ite_false, Bool.false_eq_true, Bool.true_eq_false, beq_true, beq_false, beq_self_eq_true, Bool.not_true, Bool.not_false, reduceCtorEq, List.getElem?_toArray, List.getElem?_cons_zero, List.getElem?_cons_succ]
    refine s_test1 ?_
    simp only [o_cont, o_callT, callV_fn, o_pure, o_eff, o_callF, o_callN, o_guard, gk_tt, gk_ff, gk_tf, gk_ft, gk_u, t_op, t_alt, t_nil, o_nil, POp.ev, Opd.ev, EOp.ev, env0, gu, gv, setD, resV, List.set, List.map, List.map_nil, List.map_cons, Option.map_none, Option.map_some, Option.some.injEq, exists_eq_left', pickV, binV, convV, load1V, max2V, min2V, nilchkV, unV, boolEq, isNilV, fadV, extV, slenV, ne_eq, not_true_eq_false, if_false, if_true, ite_true, ite_false, Bool.false_eq_true, Bool.true_eq_false, beq_true, beq_false, beq_self_eq_true, Bool.not_true, Bool.not_false, reduceCtorEq, List.getElem?_toArray, List.getElem?_cons_zero, List.getElem?_cons_succ, hneg]
    refine Test.false_ (s_skip1 ?_)
    simp +decide only [p_seq_normal, p_seq_ret, p_seq_exit, p_block_normal, p_block_ret, p_block_exit, p_fin_ret, p_fin_normal, reduceIte, Nat.reduceEqDiff, resV, resOne, resL, gv, Option.some.injEq, exists_eq_left', Option.bind_some, Option.map_some, List.getD_cons_zero, List.getD_cons_succ]
    refine s_reg1 ?_
    simp only [o_cont, o_callT, callV_fn, o_pure, o_eff, o_callF, o_callN, o_guard, gk_tt, gk_ff, gk_tf, gk_ft, gk_u, t_op, t_alt, t_nil, o_nil, POp.ev, Opd.ev, EOp.ev, env0, gu, gv, setD, resV, List.set, List.map, List.map_nil, List.map_cons, Option.map_none, Option.map_some, Option.some.injEq, exists_eq_left', pickV, binV, convV, load1V, max2V, min2V, nilchkV, unV, boolEq, isNilV, fadV, extV, slenV, ne_eq, not_true_eq_false, if_false, if_true, ite_true, ite_false, Bool.false_eq_true, Bool.true_eq_false, beq_true, beq_false, beq_self_eq_true, Bool.not_true, Bool.not_false, reduceCtorEq, List.getElem?_toArray, List.getElem?_cons_zero, List.getElem?_cons_succ, add1 (i := i) (by omega)]
    simp +decide only [p_seq_normal, p_seq_ret, p_seq_exit, p_block_normal, p_block_ret, p_block_exit, p_fin_ret, p_fin_normal, reduceIte, Nat.reduceEqDiff, resV, resOne, resL, gv, Option.some.injEq, exists_eq_left', Option.bind_some, Option.map_some, List.getD_cons_zero, List.getD_cons_succ]
    exact Round.mk (j - 1) (by omega) ⟨rfl, i + 1, by omega, by rw [htk]; congr 3; push_cast; omega⟩
  · have hge : i = ss.length := by simp at hlt; omega
    subst hge
    refine s_exit1 ?_
    simp +decide only [p_seq_normal, p_seq_ret, p_seq_exit, p_block_normal, p_block_ret, p_block_exit, p_fin_ret, p_fin_normal, reduceIte, Nat.reduceEqDiff, resV, resOne, resL, gv, Option.some.injEq, exists_eq_left', Option.bind_some, Option.map_some, List.getD_cons_zero, List.getD_cons_succ]
    refine s_reg ?_
    simp only [o_cont, o_callT, callV_fn, o_pure, o_eff, o_callF, o_callN, o_guard, gk_tt, gk_ff, gk_tf, gk_ft, gk_u, t_op, t_alt, t_nil, o_nil, POp.ev, Opd.ev, EOp.ev, env0, gu, gv, setD, resV, List.set, List.map, List.map_nil, List.map_cons, Option.map_none, Option.map_some, Option.some.injEq, exists_eq_left', pickV, binV, convV, load1V, max2V, min2V, nilchkV, unV, boolEq, isNilV, fadV, extV, slenV, ne_eq, not_true_eq_false, if_false, if_true, ite_true, ite_false, Bool.false_eq_true, Bool.true_eq_false, beq_true, beq_false, beq_self_eq_true, Bool.not_true, Bool.not_false, reduceCtorEq, List.getElem?_toArray, List.getElem?_cons_zero, List.getElem?_cons_succ]
    refine s_ret1 ?_
    simp +decide only [p_seq_normal, p_seq_ret, p_seq_exit, p_block_normal, p_block_ret, p_block_exit, p_fin_ret, p_fin_normal, reduceIte, Nat.reduceEqDiff, resV, resOne, resL, gv, Option.some.injEq, exists_eq_left', Option.bind_some, Option.map_some, List.getD_cons_zero, List.getD_cons_succ]
    rw [List.take_length]
    trivial
end Go.Proofs.Ytaimceodhhgnnaa
