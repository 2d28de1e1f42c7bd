/- Systems of polynomials, part 12 of the walk: the mirrored and the stretched system, both sides; no condition beyond stated lengths. -/
import Derived.Test.YtaimceodhhgnnaaT11
namespace Go.Ab
theorem s_cut {P : Program} {lim : Nat} {Q : Post} {e : List Value} {H : AHeap} {a b : ACode} (I : List Value → AHeap → Prop) (h : awp P lim a (Post.seq I (fun _ _ _ => False)) e H) (h1 : ∀ e' H', I e' H' → awp P lim b Q e' H') : awp P lim (.seq a b) Q e H :=
  s_cut1 I h h1
end Go.Ab
namespace Go.Proofs.Ytaimceodhhgnnaa
open Go.Ab
set_option linter.unusedSimpArgs false
set_option linter.unusedVariables false

theorem goodF_all : ∀ {l : List Tm} {u : Option Tm}, goodF u l = true → (∀ t ∈ l, okTm t = true ∧ t.c ≠ 0) ∧ Sorted l
  | [], u, _ => ⟨by simp, by intro i h; simp at h⟩
  | t :: l, u, h => by
    simp only [goodF, Bool.and_eq_true, Bool.not_eq_true', decide_eq_false_iff_not] at h
    obtain ⟨⟨⟨h1, h2⟩, h3⟩, h4⟩ := h
    obtain ⟨g1, g2⟩ := goodF_all h4
    refine ⟨?_, ?_⟩
    · intro x hx
      rcases List.mem_cons.1 hx with rfl | hx
      · exact ⟨h1, h2⟩
      · exact g1 x hx
    · intro i hi
      cases i with
      | zero =>
        match l, h4, hi with
        | v :: l, h4, _ =>
          simp only [goodF, Bool.and_eq_true, Bool.not_eq_true', decide_eq_false_iff_not] at h4
          have := h4.1.2
          simp only [List.getElem_cons_zero, List.getElem_cons_succ]
          omega
      | succ i => exact g2 i (by simpa using hi)
theorem sysF_all : ∀ {n : Nat} {l : List (List Tm)}, sysF n l = true → ∀ p ∈ l, p.length ≤ 20 ∧ (∀ t ∈ p, okTm t = true ∧ t.c ≠ 0) ∧ Sorted p
  | n, [], _, p, hp => by simp at hp
  | n, q :: l, h, p, hp => by
    simp only [sysF, Bool.and_eq_true, goodP, decide_eq_true_eq] at h
    rcases List.mem_cons.1 hp with rfl | hp
    · obtain ⟨g1, g2⟩ := goodF_all h.1.1.1
      exact ⟨by omega, g1, g2⟩
    · exact sysF_all h.2 p hp
theorem goodSS_all {ss : List (List Tm)} (h : goodSS ss = true) : 1 ≤ ss.length ∧ ss.length ≤ 3 ∧ ∀ p ∈ ss, p.length ≤ 20 ∧ (∀ t ∈ p, okTm t = true ∧ t.c ≠ 0) ∧ Sorted p := by
  simp only [goodSS, Bool.and_eq_true, decide_eq_true_eq] at h
  exact ⟨by omega, by omega, sysF_all h.1⟩
theorem ordT_tr (n u : Int) (a b : Tm) : ordT (tr n u a) (tr n u b) = ordT a b := rfl
theorem sorted_tr {l : List Tm} (n u : Int) (h : Sorted l) : Sorted (l.map (tr n u)) := by
  intro i hi
  simp only [List.length_map] at hi
  simp only [List.getElem_map, ordT_tr]
  exact h i hi
theorem need_tr (m n u : Int) : ∀ p : List Tm, needF m (p.map (tr n u)) = needF m p
  | [] => rfl
  | t :: l => by
    rw [List.map_cons, needF, needF, need_tr m n u l]
    rfl
theorem sysF_tr (m : Nat) (n u : Int) : ∀ l : List (List Tm), sysF m l = true → sysF m (l.map (·.map (tr n u))) = l.all fun p => goodP (p.map (tr n u))
  | [], _ => rfl
  | p :: l, h => by
    simp only [sysF, Bool.and_eq_true] at h
    rw [List.map_cons, sysF, sysF_tr m n u l h.2, List.all_cons, ← need_from, need_tr, need_from, h.1.2, Bool.and_true]
theorem sysR_tr {ss : List (List Tm)} (n u : Int) (h : goodSS ss = true) : sysR (tr n u) ss = timesR n u ss := by
  unfold sysR timesR goodSS
  have h2 := h
  simp only [goodSS, Bool.and_eq_true] at h2
  rw [List.length_map, sysF_tr _ n u ss h2.1]
  have : (decide (1 ≤ (ss.length : Int)) && decide ((ss.length : Int) ≤ 3)) = true := by simpa using h2.2
  rw [this, Bool.and_true]

/-- what both answer -/
def trR (n : Int) (ss : List (List Tm)) (u : Int) : Option (List (List Tm)) := if goodSS ss && inU ss.length u then timesR n u ss else none
theorem trR_small {n : Int} {ss : List (List Tm)} {u : Int} {l : List (List Tm)} (h : trR n ss u = some l) : l.length ≤ 3 ∧ ∀ p ∈ l, p.length ≤ 20 := by
  unfold trR at h
  split at h
  · rename_i hg
    simp only [Bool.and_eq_true] at hg
    obtain ⟨_, g2, g3⟩ := goodSS_all hg.1
    unfold timesR at h
    split at h
    · cases h
      refine ⟨by simpa using g2, fun p hp => ?_⟩
      obtain ⟨q, hq, rfl⟩ := List.mem_map.1 hp
      simpa using (g3 q hq).1
    · cases h
  · cases h

theorem specTimes_ok {g : FuncId} (C : Int) (hC : C = 2 ∨ C = -1) (hg : g = n_spec_MirrorSystem ∧ C = -1 ∨ g = n_spec_StretchSystem ∧ C = 2) (lim : Nat) (s : Value) (ss : List (List Tm)) (u : Int) (H : AHeap) (hl : lim ≤ H.next) (hs : SlSS H s ss) (hn : ss.length ≤ 1000000) (hn2 : ∀ p ∈ ss, p.length ≤ 1000000) :
    ACalls Try.prog lim g [s, .int .i64 u] H fun v H' => ResSS H' H.next v (trR C ss u) ∧ Ext H H' := by
  rcases hg with ⟨rfl, rfl⟩ | ⟨rfl, rfl⟩
  · refine is_spec_MirrorSystem.go rfl ?_
    unfold c_spec_MirrorSystem trR
    refine s_reg ?_
    simp only [o_cont, o_callT, callV_fn, o_pure, o_eff, o_callF, o_callN, o_guard, gk_tt, gk_ff, gk_tf, gk_ft, gk_u, t_op, t_alt, t_nil, o_nil, POp.ev, Opd.ev, EOp.ev, env0, gu, gv, setD, resV, List.set, List.map, List.map_nil, List.map_cons, Option.map_none, Option.map_some, Option.some.injEq, exists_eq_left', pickV, binV, convV, load1V, max2V, min2V, nilchkV, unV, boolEq, isNilV, fadV, extV, slenV, ne_eq, not_true_eq_false, if_false, if_true, ite_true, ite_false, Bool.false_eq_true, Bool.true_eq_false, beq_true, beq_false, beq_self_eq_true, Bool.not_true, Bool.not_false, reduceCtorEq, List.getElem?_toArray, List.getElem?_cons_zero, List.getElem?_cons_succ]
    refine s_test ?_
    simp only [o_cont, o_callT, callV_fn, o_pure, o_eff, o_callF, o_callN, o_guard, gk_tt, gk_ff, gk_tf, gk_ft, gk_u, t_op, t_alt, t_nil, o_nil, POp.ev, Opd.ev, EOp.ev, env0, gu, gv, setD, resV, List.set, List.map, List.map_nil, List.map_cons, Option.map_none, Option.map_some, Option.some.injEq, exists_eq_left', pickV, binV, convV, load1V, max2V, min2V, nilchkV, unV, boolEq, isNilV, fadV, extV, slenV, ne_eq, not_true_eq_false, if_false, if_true, ite_true, ite_false, Bool.false_eq_true, Bool.true_eq_false, beq_true, beq_false, beq_self_eq_true, Bool.not_true, Bool.not_false, reduceCtorEq, List.getElem?_toArray, List.getElem?_cons_zero, List.getElem?_cons_succ]
    refine (tfAsked_ok lim _ _ _ _ hl hs hn hn2).mono ?_
    rintro _ H1 ⟨rfl, hx⟩
    simp only [o_cont, o_callT, callV_fn, o_pure, o_eff, o_callF, o_callN, o_guard, gk_tt, gk_ff, gk_tf, gk_ft, gk_u, t_op, t_alt, t_nil, o_nil, POp.ev, Opd.ev, EOp.ev, env0, gu, gv, setD, resV, List.set, List.map, List.map_nil, List.map_cons, Option.map_none, Option.map_some, Option.some.injEq, exists_eq_left', pickV, binV, convV, load1V, max2V, min2V, nilchkV, unV, boolEq, isNilV, fadV, extV, slenV, ne_eq, not_true_eq_false, if_false, if_true, ite_true, ite_false, Bool.false_eq_true, Bool.true_eq_false, beq_true, beq_false, beq_self_eq_true, Bool.not_true, Bool.not_false, reduceCtorEq, List.getElem?_toArray, List.getElem?_cons_zero, List.getElem?_cons_succ]
    refine Test.split (fun h => ?_) (fun h => ?_)
    · simp only [Bool.not_eq_true'] at h
      refine s_reg ?_
      simp only [o_cont, o_callT, callV_fn, o_pure, o_eff, o_callF, o_callN, o_guard, gk_tt, gk_ff, gk_tf, gk_ft, gk_u, t_op, t_alt, t_nil, o_nil, POp.ev, Opd.ev, EOp.ev, env0, gu, gv, setD, resV, List.set, List.map, List.map_nil, List.map_cons, Option.map_none, Option.map_some, Option.some.injEq, exists_eq_left', pickV, binV, convV, load1V, max2V, min2V, nilchkV, unV, boolEq, isNilV, fadV, extV, slenV, ne_eq, not_true_eq_false, if_false, if_true, ite_true, ite_false, Bool.false_eq_true, Bool.true_eq_false, beq_true, beq_false, beq_self_eq_true, Bool.not_true, Bool.not_false, reduceCtorEq, List.getElem?_toArray, List.getElem?_cons_zero, List.getElem?_cons_succ]
      refine s_ret1 ?_
      simp +decide only [p_seq_normal, p_seq_ret, p_seq_exit, p_block_normal, p_block_ret, p_block_exit, p_fin_ret, p_fin_normal, reduceIte, Nat.reduceEqDiff, resV, resOne, resL, gv, Option.some.injEq, exists_eq_left', Option.bind_some, Option.map_some, List.getD_cons_zero, List.getD_cons_succ]
      rw [h]
      exact ⟨⟨.slice none 0 0, rfl, .inl ⟨rfl, rfl⟩⟩, hx⟩
    · simp only [Bool.not_eq_false'] at h
      have hgd := h
      simp only [Bool.and_eq_true] at hgd
      obtain ⟨_, _, hall⟩ := goodSS_all hgd.1
      have hnx := hx.next
      refine s_skip1 ?_
      simp +decide only [p_seq_normal, p_seq_ret, p_seq_exit, p_block_normal, p_block_ret, p_block_exit, p_fin_ret, p_fin_normal, reduceIte, Nat.reduceEqDiff, resV, resOne, resL, gv, Option.some.injEq, exists_eq_left', Option.bind_some, Option.map_some, List.getD_cons_zero, List.getD_cons_succ]
      refine s_reg ?_
      simp only [o_cont, o_callT, callV_fn, o_pure, o_eff, o_callF, o_callN, o_guard, gk_tt, gk_ff, gk_tf, gk_ft, gk_u, t_op, t_alt, t_nil, o_nil, POp.ev, Opd.ev, EOp.ev, env0, gu, gv, setD, resV, List.set, List.map, List.map_nil, List.map_cons, Option.map_none, Option.map_some, Option.some.injEq, exists_eq_left', pickV, binV, convV, load1V, max2V, min2V, nilchkV, unV, boolEq, isNilV, fadV, extV, slenV, ne_eq, not_true_eq_false, if_false, if_true, ite_true, ite_false, Bool.false_eq_true, Bool.true_eq_false, beq_true, beq_false, beq_self_eq_true, Bool.not_true, Bool.not_false, reduceCtorEq, List.getElem?_toArray, List.getElem?_cons_zero, List.getElem?_cons_succ]
      refine (tfTimes_ok lim _ _ _ (-1) _ (by omega) (hs.ext hx) hn (fun p hp => (hall p hp).1) (fun p hp t ht => ((hall p hp).2.1 t ht).1) (.inr rfl)).mono ?_
      rintro _ H2 ⟨⟨x, rfl, hO⟩, hx2⟩
      simp only [o_cont, o_callT, callV_fn, o_pure, o_eff, o_callF, o_callN, o_guard, gk_tt, gk_ff, gk_tf, gk_ft, gk_u, t_op, t_alt, t_nil, o_nil, POp.ev, Opd.ev, EOp.ev, env0, gu, gv, setD, resV, List.set, List.map, List.map_nil, List.map_cons, Option.map_none, Option.map_some, Option.some.injEq, exists_eq_left', pickV, binV, convV, load1V, max2V, min2V, nilchkV, unV, boolEq, isNilV, fadV, extV, slenV, ne_eq, not_true_eq_false, if_false, if_true, ite_true, ite_false, Bool.false_eq_true, Bool.true_eq_false, beq_true, beq_false, beq_self_eq_true, Bool.not_true, Bool.not_false, reduceCtorEq, List.getElem?_toArray, List.getElem?_cons_zero, List.getElem?_cons_succ]
      refine s_ret1 ?_
      simp +decide only [p_seq_normal, p_seq_ret, p_seq_exit, p_block_normal, p_block_ret, p_block_exit, p_fin_ret, p_fin_normal, reduceIte, Nat.reduceEqDiff, resV, resOne, resL, gv, Option.some.injEq, exists_eq_left', Option.bind_some, Option.map_some, List.getD_cons_zero, List.getD_cons_succ]
      rw [h]
      exact ⟨⟨x, rfl, hO.wide hnx (Nat.le_refl _)⟩, hx.trans hx2⟩
  · refine is_spec_StretchSystem.go rfl ?_
    unfold c_spec_StretchSystem trR
    refine s_reg ?_
    simp only [o_cont, o_callT, callV_fn, o_pure, o_eff, o_callF, o_callN, o_guard, gk_tt, gk_ff, gk_tf, gk_ft, gk_u, t_op, t_alt, t_nil, o_nil, POp.ev, Opd.ev, EOp.ev, env0, gu, gv, setD, resV, List.set, List.map, List.map_nil, List.map_cons, Option.map_none, Option.map_some, Option.some.injEq, exists_eq_left', pickV, binV, convV, load1V, max2V, min2V, nilchkV, unV, boolEq, isNilV, fadV, extV, slenV, ne_eq, not_true_eq_false, if_false, if_true, ite_true, ite_false, Bool.false_eq_true, Bool.true_eq_false, beq_true, beq_false, beq_self_eq_true, Bool.not_true, Bool.not_false, reduceCtorEq, List.getElem?_toArray, List.getElem?_cons_zero, List.getElem?_cons_succ]
    refine s_test ?_
    simp only [o_cont, o_callT, callV_fn, o_pure, o_eff, o_callF, o_callN, o_guard, gk_tt, gk_ff, gk_tf, gk_ft, gk_u, t_op, t_alt, t_nil, o_nil, POp.ev, Opd.ev, EOp.ev, env0, gu, gv, setD, resV, List.set, List.map, List.map_nil, List.map_cons, Option.map_none, Option.map_some, Option.some.injEq, exists_eq_left', pickV, binV, convV, load1V, max2V, min2V, nilchkV, unV, boolEq, isNilV, fadV, extV, slenV, ne_eq, not_true_eq_false, if_false, if_true, ite_true, ite_false, Bool.false_eq_true, Bool.true_eq_false, beq_true, beq_false, beq_self_eq_true, Bool.not_true, Bool.not_false, reduceCtorEq, List.getElem?_toArray, List.getElem?_cons_zero, List.getElem?_cons_succ]
    refine (tfAsked_ok lim _ _ _ _ hl hs hn hn2).mono ?_
    rintro _ H1 ⟨rfl, hx⟩
    simp only [o_cont, o_callT, callV_fn, o_pure, o_eff, o_callF, o_callN, o_guard, gk_tt, gk_ff, gk_tf, gk_ft, gk_u, t_op, t_alt, t_nil, o_nil, POp.ev, Opd.ev, EOp.ev, env0, gu, gv, setD, resV, List.set, List.map, List.map_nil, List.map_cons, Option.map_none, Option.map_some, Option.some.injEq, exists_eq_left', pickV, binV, convV, load1V, max2V, min2V, nilchkV, unV, boolEq, isNilV, fadV, extV, slenV, ne_eq, not_true_eq_false, if_false, if_true, ite_true, ite_false, Bool.false_eq_true, Bool.true_eq_false, beq_true, beq_false, beq_self_eq_true, Bool.not_true, Bool.not_false, reduceCtorEq, List.getElem?_toArray, List.getElem?_cons_zero, List.getElem?_cons_succ]
    refine Test.split (fun h => ?_) (fun h => ?_)
    · simp only [Bool.not_eq_true'] at h
      refine s_reg ?_
      simp only [o_cont, o_callT, callV_fn, o_pure, o_eff, o_callF, o_callN, o_guard, gk_tt, gk_ff, gk_tf, gk_ft, gk_u, t_op, t_alt, t_nil, o_nil, POp.ev, Opd.ev, EOp.ev, env0, gu, gv, setD, resV, List.set, List.map, List.map_nil, List.map_cons, Option.map_none, Option.map_some, Option.some.injEq, exists_eq_left', pickV, binV, convV, load1V, max2V, min2V, nilchkV, unV, boolEq, isNilV, fadV, extV, slenV, ne_eq, not_true_eq_false, if_false, if_true, ite_true, ite_false, Bool.false_eq_true, Bool.true_eq_false, beq_true, beq_false, beq_self_eq_true, Bool.not_true, Bool.not_false, reduceCtorEq, List.getElem?_toArray, List.getElem?_cons_zero, List.getElem?_cons_succ]
      refine s_ret1 ?_
      simp +decide only [p_seq_normal, p_seq_ret, p_seq_exit, p_block_normal, p_block_ret, p_block_exit, p_fin_ret, p_fin_normal, reduceIte, Nat.reduceEqDiff, resV, resOne, resL, gv, Option.some.injEq, exists_eq_left', Option.bind_some, Option.map_some, List.getD_cons_zero, List.getD_cons_succ]
      rw [h]
      exact ⟨⟨.slice none 0 0, rfl, .inl ⟨rfl, rfl⟩⟩, hx⟩
    · simp only [Bool.not_eq_false'] at h
      have hgd := h
      simp only [Bool.and_eq_true] at hgd
      obtain ⟨_, _, hall⟩ := goodSS_all hgd.1
      have hnx := hx.next
      refine s_skip1 ?_
      simp +decide only [p_seq_normal, p_seq_ret, p_seq_exit, p_block_normal, p_block_ret, p_block_exit, p_fin_ret, p_fin_normal, reduceIte, Nat.reduceEqDiff, resV, resOne, resL, gv, Option.some.injEq, exists_eq_left', Option.bind_some, Option.map_some, List.getD_cons_zero, List.getD_cons_succ]
      refine s_reg ?_
      simp only [o_cont, o_callT, callV_fn, o_pure, o_eff, o_callF, o_callN, o_guard, gk_tt, gk_ff, gk_tf, gk_ft, gk_u, t_op, t_alt, t_nil, o_nil, POp.ev, Opd.ev, EOp.ev, env0, gu, gv, setD, resV, List.set, List.map, List.map_nil, List.map_cons, Option.map_none, Option.map_some, Option.some.injEq, exists_eq_left', pickV, binV, convV, load1V, max2V, min2V, nilchkV, unV, boolEq, isNilV, fadV, extV, slenV, ne_eq, not_true_eq_false, if_false, if_true, ite_true, ite_false, Bool.false_eq_true, Bool.true_eq_false, beq_true, beq_false, beq_self_eq_true, Bool.not_true, Bool.not_false, reduceCtorEq, List.getElem?_toArray, List.getElem?_cons_zero, List.getElem?_cons_succ]
      refine (tfTimes_ok lim _ _ _ 2 _ (by omega) (hs.ext hx) hn (fun p hp => (hall p hp).1) (fun p hp t ht => ((hall p hp).2.1 t ht).1) (.inl rfl)).mono ?_
      rintro _ H2 ⟨⟨x, rfl, hO⟩, hx2⟩
      simp only [o_cont, o_callT, callV_fn, o_pure, o_eff, o_callF, o_callN, o_guard, gk_tt, gk_ff, gk_tf, gk_ft, gk_u, t_op, t_alt, t_nil, o_nil, POp.ev, Opd.ev, EOp.ev, env0, gu, gv, setD, resV, List.set, List.map, List.map_nil, List.map_cons, Option.map_none, Option.map_some, Option.some.injEq, exists_eq_left', pickV, binV, convV, load1V, max2V, min2V, nilchkV, unV, boolEq, isNilV, fadV, extV, slenV, ne_eq, not_true_eq_false, if_false, if_true, ite_true, ite_false, Bool.false_eq_true, Bool.true_eq_false, beq_true, beq_false, beq_self_eq_true, Bool.not_true, Bool.not_false, reduceCtorEq, List.getElem?_toArray, List.getElem?_cons_zero, List.getElem?_cons_succ]
      refine s_ret1 ?_
      simp +decide only [p_seq_normal, p_seq_ret, p_seq_exit, p_block_normal, p_block_ret, p_block_exit, p_fin_ret, p_fin_normal, reduceIte, Nat.reduceEqDiff, resV, resOne, resL, gv, Option.some.injEq, exists_eq_left', Option.bind_some, Option.map_some, List.getD_cons_zero, List.getD_cons_succ]
      rw [h]
      exact ⟨⟨x, rfl, hO.wide hnx (Nat.le_refl _)⟩, hx.trans hx2⟩

/-! ### the closures -/
theorem ex_pw (t : Tm) (u : Nat) (h : u < 3) : ex t u = pw t u := by
  match u, h with
  | 0, _ => rfl
  | 1, _ => rfl
  | 2, _ => rfl
theorem mirror1_ok (lim : Nat) (t : Tm) (q u : Nat) (H : AHeap) (hl : lim ≤ H.next) (hu : u < 3) (hq : q < H.next) (hc : H.blk q = some [vi u]) (ht : okTm t = true) :
    ACalls Try.prog lim n_impl_MirrorSystem_1 [tv t, .pointer (some ⟨q, 0, none⟩)] H fun v H' => SlT H' v [tr (-1) u t] ∧ Ext H H' := by
  refine is_impl_MirrorSystem_1.go rfl ?_
  unfold c_impl_MirrorSystem_1
  have hpb := pw_b ht u
  have htb := okTm_b ht
  obtain ⟨E, hE⟩ : ∃ E : Nat, pw t u = (E : Int) := ⟨(pw t u).toNat, by omega⟩
  refine s_reg ?_
  simp only [o_cont, o_callT, callV_fn, o_pure, o_eff, o_callF, o_callN, o_guard, gk_tt, gk_ff, gk_tf, gk_ft, gk_u, t_op, t_alt, t_nil, o_nil, POp.ev, Opd.ev, EOp.ev, env0, gu, gv, setD, resV, List.set, List.map, List.map_nil, List.map_cons, Option.map_none, Option.map_some, Option.some.injEq, exists_eq_left', pickV, binV, convV, load1V, max2V, min2V, nilchkV, unV, boolEq, isNilV, fadV, extV, slenV, ne_eq, not_true_eq_false, if_false, if_true, ite_true, ite_false, Bool.false_eq_true, Bool.true_eq_false, beq_true, beq_false, beq_self_eq_true, Bool.not_true, Bool.not_false, reduceCtorEq, List.getElem?_toArray, List.getElem?_cons_zero, List.getElem?_cons_succ, boxT]
  have hB := BoxT.mk' H t
  have hc1 : (H.alloc (tc t)).blk q = some [vi u] := by rw [hB.ext.blk _ hq]; exact hc
  have hq1 : q < (H.alloc (tc t)).next := Nat.lt_succ_of_lt hq
  generalize H.alloc (tc t) = H1 at hB hc1 hq1 ⊢
  generalize hpe : H.next = p at hB hl hq ⊢
  have hge := hB.ge
  refine s_cut (fun e'' H'' => BoxT H H'' p (tr (-1) u t) ∧ e'' = [tv t, .pointer (some ⟨q, 0, none⟩), .pointer (some ⟨p, 0, none⟩), .slice none 0 0]) ?_ ?_
  · refine s_test1 ?_
    simp only [o_cont, o_callT, callV_fn, o_pure, o_eff, o_callF, o_callN, o_guard, gk_tt, gk_ff, gk_tf, gk_ft, gk_u, t_op, t_alt, t_nil, o_nil, POp.ev, Opd.ev, EOp.ev, env0, gu, gv, setD, resV, List.set, List.map, List.map_nil, List.map_cons, Option.map_none, Option.map_some, Option.some.injEq, exists_eq_left', pickV, binV, convV, load1V, max2V, min2V, nilchkV, unV, boolEq, isNilV, fadV, extV, slenV, ne_eq, not_true_eq_false, if_false, if_true, ite_true, ite_false, Bool.false_eq_true, Bool.true_eq_false, beq_true, beq_false, beq_self_eq_true, Bool.not_true, Bool.not_false, reduceCtorEq, List.getElem?_toArray, List.getElem?_cons_zero, List.getElem?_cons_succ, hB.all, cell_blk hc1]
    refine (exponents_ok H1.next t H1 (Nat.le_refl _)).use ?_
    rintro _ H2 ⟨rfl, hx2⟩ _
    replace hB := hB.mono hx2
    have e20 : ¬ (2 : Int) = 0 := by decide
    have hmod : (E : Int).tmod 2 = ((E % 2 : Nat) : Int) := rfl
    have hex := aix_exp (t := t) hu
    rw [ex_pw t u hu, hE] at hex
    simp only [o_cont, o_callT, callV_fn, o_pure, o_eff, o_callF, o_callN, o_guard, gk_tt, gk_ff, gk_tf, gk_ft, gk_u, t_op, t_alt, t_nil, o_nil, POp.ev, Opd.ev, EOp.ev, env0, gu, gv, setD, resV, List.set, List.map, List.map_nil, List.map_cons, Option.map_none, Option.map_some, Option.some.injEq, exists_eq_left', pickV, binV, convV, load1V, max2V, min2V, nilchkV, unV, boolEq, isNilV, fadV, extV, slenV, ne_eq, not_true_eq_false, if_false, if_true, ite_true, ite_false, Bool.false_eq_true, Bool.true_eq_false, beq_true, beq_false, beq_self_eq_true, Bool.not_true, Bool.not_false, reduceCtorEq, List.getElem?_toArray, List.getElem?_cons_zero, List.getElem?_cons_succ, List.getElem?_cons_zero, hex, if_neg e20, hmod]
    refine Test.split (fun hg => ?_) (fun hg => ?_)
    · have hodd : E = 1 ∨ E = 3 := by simp at hg; omega
      have hneg : IntKind.i64.wrap (0 - t.c) = -t.c := by rw [IntKind.wrap_i64]; omega
      obtain ⟨cs, g1, g2⟩ := hB.put0 (lim := lim) (by omega) (-t.c)
      refine s_reg1 ?_
      simp only [o_cont, o_callT, callV_fn, o_pure, o_eff, o_callF, o_callN, o_guard, gk_tt, gk_ff, gk_tf, gk_ft, gk_u, t_op, t_alt, t_nil, o_nil, POp.ev, Opd.ev, EOp.ev, env0, gu, gv, setD, resV, List.set, List.map, List.map_nil, List.map_cons, Option.map_none, Option.map_some, Option.some.injEq, exists_eq_left', pickV, binV, convV, load1V, max2V, min2V, nilchkV, unV, boolEq, isNilV, fadV, extV, slenV, ne_eq, not_true_eq_false, if_false, if_true, ite_true, ite_false, Bool.false_eq_true, Bool.true_eq_false, beq_true, beq_false, beq_self_eq_true, Bool.not_true, Bool.not_false, reduceCtorEq, List.getElem?_toArray, List.getElem?_cons_zero, List.getElem?_cons_succ, Nat.zero_add, hB.c0, hneg, g1]
      simp +decide only [p_seq_normal, p_seq_ret, p_seq_exit, p_block_normal, p_block_ret, p_block_exit, p_fin_ret, p_fin_normal, reduceIte, Nat.reduceEqDiff, resV, resOne, resL, gv, Option.some.injEq, exists_eq_left', Option.bind_some, Option.map_some, List.getD_cons_zero, List.getD_cons_succ]
      refine ⟨?_, trivial⟩
      have e : tr (-1) u t = { t with c := -t.c } := by
        unfold tr
        rw [hE]
        rcases hodd with rfl | rfl <;> simp
      rw [e]
      exact g2
    · have heven : E = 0 ∨ E = 2 ∨ E = 4 := by simp at hg; omega
      refine s_skip1 ?_
      simp +decide only [p_seq_normal, p_seq_ret, p_seq_exit, p_block_normal, p_block_ret, p_block_exit, p_fin_ret, p_fin_normal, reduceIte, Nat.reduceEqDiff, resV, resOne, resL, gv, Option.some.injEq, exists_eq_left', Option.bind_some, Option.map_some, List.getD_cons_zero, List.getD_cons_succ]
      refine ⟨?_, trivial⟩
      have e : tr (-1) u t = t := by
        unfold tr
        rw [hE]
        rcases heven with rfl | rfl | rfl <;> simp
      rw [e]
      exact hB
  rintro e'' H2 ⟨hB2, rfl⟩
  refine s_reg ?_
  simp only [o_cont, o_callT, callV_fn, o_pure, o_eff, o_callF, o_callN, o_guard, gk_tt, gk_ff, gk_tf, gk_ft, gk_u, t_op, t_alt, t_nil, o_nil, POp.ev, Opd.ev, EOp.ev, env0, gu, gv, setD, resV, List.set, List.map, List.map_nil, List.map_cons, Option.map_none, Option.map_some, Option.some.injEq, exists_eq_left', pickV, binV, convV, load1V, max2V, min2V, nilchkV, unV, boolEq, isNilV, fadV, extV, slenV, ne_eq, not_true_eq_false, if_false, if_true, ite_true, ite_false, Bool.false_eq_true, Bool.true_eq_false, beq_true, beq_false, beq_self_eq_true, Bool.not_true, Bool.not_false, reduceCtorEq, List.getElem?_toArray, List.getElem?_cons_zero, List.getElem?_cons_succ, hB2.all, bsliceT]
  refine s_ret1 ?_
  simp +decide only [p_seq_normal, p_seq_ret, p_seq_exit, p_block_normal, p_block_ret, p_block_exit, p_fin_ret, p_fin_normal, reduceIte, Nat.reduceEqDiff, resV, resOne, resL, gv, Option.some.injEq, exists_eq_left', Option.bind_some, Option.map_some, List.getD_cons_zero, List.getD_cons_succ]
  exact ⟨sl_one H2 _, hB2.ext.trans (Ext.alloc _ _)⟩

theorem stretch1_ok (lim : Nat) (t : Tm) (q u : Nat) (H : AHeap) (hl : lim ≤ H.next) (hu : u < 3) (hq : q < H.next) (hc : H.blk q = some [vi u]) (ht : okTm t = true) :
    ACalls Try.prog lim n_impl_StretchSystem_1 [tv t, .pointer (some ⟨q, 0, none⟩)] H fun v H' => SlT H' v [tr 2 u t] ∧ Ext H H' := by
  refine is_impl_StretchSystem_1.go rfl ?_
  unfold c_impl_StretchSystem_1
  have hpb := pw_b ht u
  have htb := okTm_b ht
  obtain ⟨E, hE⟩ : ∃ E : Nat, pw t u = (E : Int) := ⟨(pw t u).toNat, by omega⟩
  refine s_reg ?_
  simp only [o_cont, o_callT, callV_fn, o_pure, o_eff, o_callF, o_callN, o_guard, gk_tt, gk_ff, gk_tf, gk_ft, gk_u, t_op, t_alt, t_nil, o_nil, POp.ev, Opd.ev, EOp.ev, env0, gu, gv, setD, resV, List.set, List.map, List.map_nil, List.map_cons, Option.map_none, Option.map_some, Option.some.injEq, exists_eq_left', pickV, binV, convV, load1V, max2V, min2V, nilchkV, unV, boolEq, isNilV, fadV, extV, slenV, ne_eq, not_true_eq_false, if_false, if_true, ite_true, ite_false, Bool.false_eq_true, Bool.true_eq_false, beq_true, beq_false, beq_self_eq_true, Bool.not_true, Bool.not_false, reduceCtorEq, List.getElem?_toArray, List.getElem?_cons_zero, List.getElem?_cons_succ, boxT]
  have hB := BoxT.mk' H t
  have hc1 : (H.alloc (tc t)).blk q = some [vi u] := by rw [hB.ext.blk _ hq]; exact hc
  generalize H.alloc (tc t) = H1 at hB hc1 ⊢
  generalize hpe : H.next = p at hB hl hq ⊢
  have hge := hB.ge
  have hmin : min (E : Int).toNat IntKind.i64.bits = E := by have hb : IntKind.i64.bits = 64 := rfl; rw [hb]; omega
  have hneg : ¬ ((E : Int) < 0) := by omega
  have hw : IntKind.i64.wrap (t.c * 2 ^ E) = t.c * 2 ^ E := by
    have := tr_small (c := t.c) (n := 2) (j := E) (by omega) (.inl rfl) (by omega)
    rw [IntKind.wrap_i64]; omega
  have hex := aix_exp (t := t) hu
  rw [ex_pw t u hu, hE] at hex
  refine s_reg ?_
  simp only [o_cont, o_callT, callV_fn, o_pure, o_eff, o_callF, o_callN, o_guard, gk_tt, gk_ff, gk_tf, gk_ft, gk_u, t_op, t_alt, t_nil, o_nil, POp.ev, Opd.ev, EOp.ev, env0, gu, gv, setD, resV, List.set, List.map, List.map_nil, List.map_cons, Option.map_none, Option.map_some, Option.some.injEq, exists_eq_left', pickV, binV, convV, load1V, max2V, min2V, nilchkV, unV, boolEq, isNilV, fadV, extV, slenV, ne_eq, not_true_eq_false, if_false, if_true, ite_true, ite_false, Bool.false_eq_true, Bool.true_eq_false, beq_true, beq_false, beq_self_eq_true, Bool.not_true, Bool.not_false, reduceCtorEq, List.getElem?_toArray, List.getElem?_cons_zero, List.getElem?_cons_succ, Nat.zero_add, hB.c0, hB.all, cell_blk hc1]
  refine (exponents_ok H1.next t H1 (Nat.le_refl _)).use ?_
  rintro _ H2 ⟨rfl, hx2⟩ _
  replace hB := hB.mono hx2
  obtain ⟨cs, g1, g2⟩ := hB.put0 (lim := lim) (by omega) (t.c * 2 ^ E)
  have e : tr 2 u t = { t with c := t.c * 2 ^ E } := by
    unfold tr
    rw [hE, Int.toNat_natCast]
  rw [← e] at g2
  simp only [o_cont, o_callT, callV_fn, o_pure, o_eff, o_callF, o_callN, o_guard, gk_tt, gk_ff, gk_tf, gk_ft, gk_u, t_op, t_alt, t_nil, o_nil, POp.ev, Opd.ev, EOp.ev, env0, gu, gv, setD, resV, List.set, List.map, List.map_nil, List.map_cons, Option.map_none, Option.map_some, Option.some.injEq, exists_eq_left', pickV, binV, convV, load1V, max2V, min2V, nilchkV, unV, boolEq, isNilV, fadV, extV, slenV, ne_eq, not_true_eq_false, if_false, if_true, ite_true, ite_false, Bool.false_eq_true, Bool.true_eq_false, beq_true, beq_false, beq_self_eq_true, Bool.not_true, Bool.not_false, reduceCtorEq, List.getElem?_toArray, List.getElem?_cons_zero, List.getElem?_cons_succ, Nat.zero_add, hex, if_neg hneg, hmin, hw, g1]
  generalize H2.put p cs = H3 at g2 ⊢
  refine s_reg ?_
  simp only [o_cont, o_callT, callV_fn, o_pure, o_eff, o_callF, o_callN, o_guard, gk_tt, gk_ff, gk_tf, gk_ft, gk_u, t_op, t_alt, t_nil, o_nil, POp.ev, Opd.ev, EOp.ev, env0, gu, gv, setD, resV, List.set, List.map, List.map_nil, List.map_cons, Option.map_none, Option.map_some, Option.some.injEq, exists_eq_left', pickV, binV, convV, load1V, max2V, min2V, nilchkV, unV, boolEq, isNilV, fadV, extV, slenV, ne_eq, not_true_eq_false, if_false, if_true, ite_true, ite_false, Bool.false_eq_true, Bool.true_eq_false, beq_true, beq_false, beq_self_eq_true, Bool.not_true, Bool.not_false, reduceCtorEq, List.getElem?_toArray, List.getElem?_cons_zero, List.getElem?_cons_succ, g2.all, bsliceT]
  refine s_ret1 ?_
  simp +decide only [p_seq_normal, p_seq_ret, p_seq_exit, p_block_normal, p_block_ret, p_block_exit, p_fin_ret, p_fin_normal, reduceIte, Nat.reduceEqDiff, resV, resOne, resL, gv, Option.some.injEq, exists_eq_left', Option.bind_some, Option.map_some, List.getD_cons_zero, List.getD_cons_succ]
  exact ⟨sl_one H3 _, g2.ext.trans (Ext.alloc _ _)⟩
end Go.Proofs.Ytaimceodhhgnnaa
