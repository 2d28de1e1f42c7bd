/- Parts of the proof of a statement of this seat: contracts of functions that the law calls, or the law's own row; no condition. -/
import Derived.Lib.Strings
import Derived.Lib.Slices
import Derived.Lib.Walk
import Derived.Lib.Bytealg
import Derived.Test.YtooaafekllkpbaaDoorM5
/- Parts of the proof of a statement of this seat: contracts of functions that the law calls, or the law's own row; no condition. -/
/- The reader of expressions, specification: sums, and the whole reader; no condition beyond stated ranges. -/
namespace Go.Proofs.YtooaafekllkpbaaDoor
open Go.Ab
set_option linter.unusedSimpArgs false
set_option linter.unusedVariables false

theorem pSumF_eq {s : ByteArray} {F : PF} (hadv : Adv s F) (st : St) : pSumF s F st =
    (F ⟨if ch s st.i = 45 then st.i + 1 else st.i, st.most, st.large⟩).bind fun r => sumLoop s F (s.size + 1) (keepF r.1 (addV zV r.2 (sgnC (ch s st.i)))).1 (keepF r.1 (addV zV r.2 (sgnC (ch s st.i)))).2 := by
  unfold pSumF sgnC
  by_cases h : ch s st.i = 45
  · simp only [if_pos h]
  · simp only [if_neg h]
    cases hf : F st with
    | none => rfl
    | some r =>
      simp only [Option.bind_some]
      rw [add_zero (hadv _ _ hf).2.2]
      rfl

theorem sSum_ok (lim q : Nat) (s : ByteArray) (d : Int) (B : Nat) (F : PF) (hq : lim ≤ q) (hs : s.size ≤ 100) (hB : s.size + 1 ≤ B ∧ B ≤ 1000) (hadv : Adv s F) (hF : SOk lim q s d B n_spec_txReader_product F) :
    SOk lim q s d B n_spec_txReader_sum (pSumF s F) := by
  intro H st hl hqn hi h
  refine is_spec_txReader_sum.go rfl ?_
  unfold c_spec_txReader_sum
  refine s_reg ?_
  simp only [o_eff, o_nil, EOp.ev, env0, gu, setD, List.set, Option.some.injEq, exists_eq_left']
  have L1 := Loc.mk' (Chg.refl q H) [.slice none 0 0, .int .i64 0]
  replace h := h.ext (Ext.alloc H [.slice none 0 0, .int .i64 0]) hqn
  generalize H.alloc [.slice none 0 0, .int .i64 0] = H1 at L1 h ⊢
  have hn1 := L1.lt
  have hnx1 := L1.chg.next
  generalize hp1 : H.next = p1 at L1 hn1
  have hf : fillV [.slice none 0 0, .int .i64 0] [(1, 1, .int .i64 1)] = some [.slice none 0 0, .int .i64 1] := rfl
  refine s_reg ?_
  simp only [o_pure, o_eff, o_nil, POp.ev, Opd.ev, EOp.ev, gv, setD, List.set, List.map, Option.map_some, Option.some.injEq, exists_eq_left', hf, store2_new (lim := lim) (H := H1) (by omega)]
  have L2 := Loc.mk' L1.chg [.slice none 0 0, .int .i64 1]
  have hx3 := Ext.alloc H1 [.slice none 0 0, .int .i64 1]
  replace L1 := L1.ext hx3
  replace h := h.ext hx3 (by omega)
  generalize H1.alloc [.slice none 0 0, .int .i64 1] = H2 at L1 L2 hx3 h ⊢
  have hn2 := hx3.next
  generalize H1.next = p2 at L2 hx3 hn1 hn2 hnx1
  refine s_reg ?_
  simp only [o_pure, o_nil, POp.ev, Opd.ev, setD, List.set, Option.some.injEq, exists_eq_left']
  obtain ⟨R, hR⟩ : ∃ R, R = pSumF s F st := ⟨_, rfl⟩
  rw [← hR]
  rw [pSumF_eq hadv] at hR
  have e45 : ∀ i, ((ch s i : Int) == 45) = decide (ch s i = 45) := fun i => int_beq _ 45
  refine s_cut (fun e' H' => SRd H' q s ((if ch s st.i = 45 then st.i + 1 else st.i : Nat) : Int) d st.most false st.large ∧ Chg q H2 H' ∧ e' = [pt q, pt p1, pt p2, .int .i64 (sgnC (ch s st.i))]) ?_ ?_
  · refine s_test1_same (decide (ch s st.i = 45)) ?_ (fun h45 => ?_) (fun h45 => ?_)
    · simp only [o_pure, o_callF, POp.ev, Opd.ev, gv, setD, List.map, Option.some.injEq, exists_eq_left']
      refine (sNext_ok _ _ _ _ _ _ _ _ _ h).eq ?_
      simp only [o_cont, o_pure, o_nil, POp.ev, Opd.ev, gv, setD, Option.some.injEq, exists_eq_left', binV, ne_eq, not_true_eq_false, if_false, e45]
      simp
    · have h45' : ch s st.i = 45 := by simpa using h45
      obtain ⟨H3, e3, h3, c3⟩ := h.s1 hq ((st.i + 1 : Nat) : Int)
      refine s_reg ?_
      simp only [o_pure, o_eff, o_nil, POp.ev, Opd.ev, EOp.ev, gv, setD, Option.some.injEq, exists_eq_left', binV, load1V, nilchkV, fadV, ne_eq, not_true_eq_false, if_false, Nat.zero_add, h.c1, add1 (i := st.i) (by omega), e3]
      refine s_reg1 ?_
      simp only [o_pure, o_nil, POp.ev, Opd.ev, setD, List.set, Option.some.injEq, exists_eq_left']
      simp +decide only [p_seq_normal]
      unfold sgnC
      rw [if_pos h45', if_pos h45']
      exact ⟨h3, c3, rfl⟩
    · have h45' : ¬ ch s st.i = 45 := by simpa using h45
      refine s_skip1 ?_
      simp +decide only [p_seq_normal]
      unfold sgnC
      rw [if_neg h45', if_neg h45']
      exact ⟨h, Chg.refl _ _, rfl⟩
  rintro e' H4 ⟨h4, c4, rfl⟩
  obtain ⟨i0, hi0⟩ : ∃ i0, i0 = if ch s st.i = 45 then st.i + 1 else st.i := ⟨_, rfl⟩
  rw [← hi0] at h4 hR
  have hi0s : i0 ≤ s.size := by
    rw [hi0]
    split
    · exact ch_lt (s := s) (i := st.i) (by omega)
    · exact hi
  have hn4 := c4.next
  replace L1 := L1.step c4 hqn
  replace L2 := L2.step c4 hqn
  have hge1 := L1.ge
  have hge2 := L2.ge
  have hlt2 := L2.lt
  have hcall := hF H4 ⟨i0, st.most, st.large⟩ (by omega) (by omega) hi0s h4
  -- the first product
  refine s_regT_cut (fun e' H' => ∃ (su : Value) (U : V) (i6 : Nat) (d6 m6 : Int) (w6 l6 : Bool), Good U ∧ Held H' H.next [p2, p1] su U.ts ∧ Loc q H H' p1 [.slice none 0 0, .int .i64 0] ∧ Loc q H H' p2 [su, .int .i64 U.den] ∧ SRd H' q s i6 d6 m6 w6 l6 ∧ i6 ≤ B ∧
    ((w6 = true ∧ R = none) ∨ (w6 = false ∧ d6 = d ∧ i6 ≤ s.size ∧ ∃ k, s.size + 1 ≤ k + i6 ∧ R = sumLoop s F k ⟨i6, m6, l6⟩ U)) ∧ e' = [pt q, pt p1, pt p2, .int .i64 (sgnC (ch s st.i))]) ?_ ?_
  · simp only [o_pure, o_eff, o_callF, t_op, t_alt, t_nil, o_nil, POp.ev, Opd.ev, EOp.ev, gv, setD, List.map, Option.map_some, Option.some.injEq, exists_eq_left', extV, L2.load2]
    have gU : Good zV := zV_good
    have hU : Held H4 H.next [p2, p1] (.slice none 0 0) zV.ts := .inl ⟨rfl, rfl⟩
    refine ⟨?_, ?_⟩
    ·
      refine hcall.mono ?_
      intro v H9 hr
      obtain ⟨c9, X, slx, i7, d7, m7, w7, l7, rfl, gX, fX, h9, hi7, hcase7⟩ := ResP.cases hadv (by omega) hr
      have hn9 := c9.next
      have L19 := L1.step c9 hqn
      have L29 := L2.step c9 hqn
      have hU9 := hU.chg c9 (.inr (by omega))
      simp only [o_cont, o_nil, gv, setD]
      refine (txAdd_ok lim (.slice none 0 0) slx zV X (sgnC (ch s st.i)) H9 (by omega) hU9.sl fX.sl gU gX (sgnC_or _)).mono ?_
      rintro _ H10 ⟨⟨sl2, den2, ok, rfl, hmk⟩, hx10⟩
      have hn10 := hx10.next
      simp only [o_cont, o_nil, gv, setD, Option.some.injEq, exists_eq_left', List.getElem?_toArray, List.getElem?_cons_zero, List.getElem?_cons_succ]
      refine (sKeep_ok lim q s i7 d7 m7 w7 l7 ok sl2 den2 H10 hq (by omega) (by omega) (h9.ext hx10 (by omega))).mono ?_
      rintro _ H11 ⟨rfl, h11, c11⟩
      have hn11 := c11.next
      obtain ⟨H12, e12, L12, c12, n12⟩ := ((L29.ext hx10).step c11 hqn).put2 hl (if ok then sl2 else .slice none 0 0) (.int .i64 (if ok then den2 else 1))
      simp only [o_cont, o_nil, gv, setD, Option.some.injEq, exists_eq_left', e12]
      try simp +decide only [p_seq_normal, p_seq_ret, p_seq_exit, p_block_normal, p_block_ret, p_block_exit, p_fin_ret, p_fin_normal, reduceIte, Nat.reduceEqDiff, resV, resOne, resL, gv, Option.some.injEq, exists_eq_left', Option.bind_some, Option.map_some, List.getD_cons_zero, List.getD_cons_succ]
      have hge2' := L29.ge
      have L112 := ((L19.ext hx10).step c11 hqn).other c12 (by omega) hge2'
      have h12 := h11.over c12 (by omega) (by omega)
      cases hmv : addV zV X (sgnC (ch s st.i)) with
      | none =>
        rw [hmv] at hmk
        subst hmk
        simp only [Bool.not_false, Bool.or_true] at h12
        refine ⟨_, zV, i7, d7, m7, w7, true, zV_good, .inl ⟨rfl, rfl⟩, L112, L12, h12, hi7, ?_, trivial⟩
        · rcases hcase7 with ⟨rfl, hn⟩ | ⟨rfl, rfl, g1, g2, hsm⟩
          · rw [hn] at hR
            exact .inl ⟨rfl, hR⟩
          · rw [hsm, Option.bind_some] at hR
            simp only [hmv, keepF] at hR
            simp only at g1
            exact .inr ⟨rfl, rfl, g2, _, by omega, hR⟩
      | some Y =>
        rw [hmv] at hmk
        obtain ⟨rfl, rfl, fY⟩ := hmk
        simp only [Bool.not_true, Bool.or_false] at h12
        have hY := (((fY.held [p2, p1] (by simp; omega)).chg c11 (.inr (by omega))).chg c12 (.inl (by simp)))
        refine ⟨_, Y, i7, d7, m7, w7, l7, addV_good gU gX (sgnC_or _) hmv, hY.imp id (fun ⟨b, g1, g2, g3, g4⟩ => ⟨b, by omega, g2, g3, g4⟩), L112, L12, h12, hi7, ?_, trivial⟩
        · rcases hcase7 with ⟨rfl, hn⟩ | ⟨rfl, rfl, g1, g2, hsm⟩
          · rw [hn] at hR
            exact .inl ⟨rfl, hR⟩
          · rw [hsm, Option.bind_some] at hR
            simp only [hmv, keepF] at hR
            simp only at g1
            exact .inr ⟨rfl, rfl, g2, _, by omega, hR⟩
    ·
      refine hcall.mono ?_
      intro v H9 hr
      obtain ⟨c9, X, slx, i7, d7, m7, w7, l7, rfl, gX, fX, h9, hi7, hcase7⟩ := ResP.cases hadv (by omega) hr
      have hn9 := c9.next
      have L19 := L1.step c9 hqn
      have L29 := L2.step c9 hqn
      have hU9 := hU.chg c9 (.inr (by omega))
      simp only [o_cont, o_nil, gv, setD, Option.map_some, Option.some.injEq, exists_eq_left', L29.load2]
      refine (txAdd_ok lim (.slice none 0 0) slx zV X (sgnC (ch s st.i)) H9 (by omega) hU9.sl fX.sl gU gX (sgnC_or _)).mono ?_
      rintro _ H10 ⟨⟨sl2, den2, ok, rfl, hmk⟩, hx10⟩
      have hn10 := hx10.next
      simp only [o_cont, o_nil, gv, setD, Option.some.injEq, exists_eq_left', List.getElem?_toArray, List.getElem?_cons_zero, List.getElem?_cons_succ]
      refine (sKeep_ok lim q s i7 d7 m7 w7 l7 ok sl2 den2 H10 hq (by omega) (by omega) (h9.ext hx10 (by omega))).mono ?_
      rintro _ H11 ⟨rfl, h11, c11⟩
      have hn11 := c11.next
      obtain ⟨H12, e12, L12, c12, n12⟩ := ((L29.ext hx10).step c11 hqn).put2 hl (if ok then sl2 else .slice none 0 0) (.int .i64 (if ok then den2 else 1))
      simp only [o_cont, o_nil, gv, setD, Option.some.injEq, exists_eq_left', e12]
      try simp +decide only [p_seq_normal, p_seq_ret, p_seq_exit, p_block_normal, p_block_ret, p_block_exit, p_fin_ret, p_fin_normal, reduceIte, Nat.reduceEqDiff, resV, resOne, resL, gv, Option.some.injEq, exists_eq_left', Option.bind_some, Option.map_some, List.getD_cons_zero, List.getD_cons_succ]
      have hge2' := L29.ge
      have L112 := ((L19.ext hx10).step c11 hqn).other c12 (by omega) hge2'
      have h12 := h11.over c12 (by omega) (by omega)
      cases hmv : addV zV X (sgnC (ch s st.i)) with
      | none =>
        rw [hmv] at hmk
        subst hmk
        simp only [Bool.not_false, Bool.or_true] at h12
        refine ⟨_, zV, i7, d7, m7, w7, true, zV_good, .inl ⟨rfl, rfl⟩, L112, L12, h12, hi7, ?_, trivial⟩
        · rcases hcase7 with ⟨rfl, hn⟩ | ⟨rfl, rfl, g1, g2, hsm⟩
          · rw [hn] at hR
            exact .inl ⟨rfl, hR⟩
          · rw [hsm, Option.bind_some] at hR
            simp only [hmv, keepF] at hR
            simp only at g1
            exact .inr ⟨rfl, rfl, g2, _, by omega, hR⟩
      | some Y =>
        rw [hmv] at hmk
        obtain ⟨rfl, rfl, fY⟩ := hmk
        simp only [Bool.not_true, Bool.or_false] at h12
        have hY := (((fY.held [p2, p1] (by simp; omega)).chg c11 (.inr (by omega))).chg c12 (.inl (by simp)))
        refine ⟨_, Y, i7, d7, m7, w7, l7, addV_good gU gX (sgnC_or _) hmv, hY.imp id (fun ⟨b, g1, g2, g3, g4⟩ => ⟨b, by omega, g2, g3, g4⟩), L112, L12, h12, hi7, ?_, trivial⟩
        · rcases hcase7 with ⟨rfl, hn⟩ | ⟨rfl, rfl, g1, g2, hsm⟩
          · rw [hn] at hR
            exact .inl ⟨rfl, hR⟩
          · rw [hsm, Option.bind_some] at hR
            simp only [hmv, keepF] at hR
            simp only at g1
            exact .inr ⟨rfl, rfl, g2, _, by omega, hR⟩
  clear hlt2 hcall h4 c4 hn4 L1 L2 hi0s hR h hx3 hn2
  rintro e' H3 ⟨su, U, i6, d6, m6, w6, l6, gU, hU, L1, L2, h3, hi6, hcase, rfl⟩
  refine s_block ?_
  refine s_loop1 (fun k e' H' => ∃ (su x3 : Value) (U : V) (i6 : Nat) (d6 m6 : Int) (w6 l6 : Bool), k = (if w6 then 0 else s.size + 1 - i6) ∧ Good U ∧ Held H' H.next [p2, p1] su U.ts ∧ Loc q H H' p1 [.slice none 0 0, .int .i64 0] ∧ Loc q H H' p2 [su, .int .i64 U.den] ∧ SRd H' q s i6 d6 m6 w6 l6 ∧ i6 ≤ B ∧
    ((w6 = true ∧ R = none) ∨ (w6 = false ∧ d6 = d ∧ i6 ≤ s.size ∧ ∃ k, s.size + 1 ≤ k + i6 ∧ R = sumLoop s F k ⟨i6, m6, l6⟩ U)) ∧ e' = [pt q, pt p1, pt p2, x3]) _ ⟨su, _, U, i6, d6, m6, w6, l6, rfl, gU, hU, L1, L2, h3, hi6, hcase, rfl⟩ ?_
  clear hU L1 L2 h3 hcase gU hi6
  rintro kk e' H3 ⟨su, x3, U, i6, d6, m6, w6, l6, rfl, gU, hU, L1, L2, h3, hi6, hcase, rfl⟩
  have hn3 := L1.chg.next
  have hlt2 := L2.lt
  have e43 : ((ch s i6 : Int) == 43) = decide (ch s i6 = 43) := int_beq _ 43
  refine s_test_same (!w6 && (decide (ch s i6 = 43) || decide (ch s i6 = 45))) ?_ (fun hgo => ?_) (fun hstop => ?_)
  · simp only [o_pure, o_guard, POp.ev, Opd.ev, gv, setD, Option.some.injEq, exists_eq_left', load1V, nilchkV, unV, fadV, Nat.zero_add, h3.c4]
    cases hw : w6
    · simp only [o_pure, o_callF, o_guard, gk_tt, POp.ev, Opd.ev, gv, setD, List.map, Option.some.injEq, exists_eq_left', Bool.not_false]
      refine (sNext_ok _ _ _ _ _ _ _ _ _ h3).eq ?_
      simp only [o_cont, o_pure, o_guard, gk_tt, POp.ev, Opd.ev, gv, setD, Option.some.injEq, exists_eq_left', binV, ne_eq, not_true_eq_false, if_false, e43]
      cases h43 : decide (ch s i6 = 43)
      · simp only [o_pure, o_callF, o_guard, gk_ff, POp.ev, Opd.ev, gv, setD, List.map, Option.some.injEq, exists_eq_left']
        refine (sNext_ok _ _ _ _ _ _ _ _ _ h3).eq ?_
        simp only [o_cont, o_pure, o_guard, gk_tt, gk_ff, o_nil, POp.ev, Opd.ev, gv, setD, Option.some.injEq, exists_eq_left', pickV, binV, ne_eq, not_true_eq_false, if_false, e45]
        simp
      · simp only [o_pure, o_guard, gk_tt, gk_tf, o_nil, POp.ev, Opd.ev, gv, setD, Option.some.injEq, exists_eq_left', pickV]
        simp
    · simp only [o_pure, o_guard, gk_ft, gk_u, o_nil, POp.ev, Opd.ev, gv, setD, Option.some.injEq, exists_eq_left', pickV, Bool.not_true]
      simp
  · simp only [Bool.and_eq_true, Bool.or_eq_true, Bool.not_eq_true', decide_eq_true_eq] at hgo
    obtain ⟨hw, hpm⟩ := hgo
    have hlt6 := ch_lt (s := s) (i := i6) (by omega)
    rcases hcase with ⟨e1, _⟩ | ⟨_, rfl, hi6s, k, hk, hRk⟩
    · rw [hw] at e1; cases e1
    subst hw
    obtain ⟨k, rfl⟩ : ∃ k', k = k' + 1 := ⟨k - 1, by omega⟩
    have hun : sumLoop s F (k + 1) ⟨i6, m6, l6⟩ U = (F ⟨i6 + 1, m6, l6⟩).bind fun r => sumLoop s F k (keepF r.1 (addV U r.2 (sgnC (ch s i6)))).1 (keepF r.1 (addV U r.2 (sgnC (ch s i6)))).2 := by
      rw [sumLoop, if_pos hpm]
    rw [hun] at hRk
    obtain ⟨H4, e4, h4, c4⟩ := h3.s1 hq ((i6 + 1 : Nat) : Int)
    have hn4 := c4.next
    refine s_skip1 ?_
    simp +decide only [p_seq_normal, reduceIte]
    refine s_block1 ?_
    refine s_reg ?_
    simp only [o_pure, o_nil, POp.ev, Opd.ev, setD, List.set, Option.some.injEq, exists_eq_left']
    refine s_cut (fun e' H' => H' = H3 ∧ e' = [pt q, pt p1, pt p2, .int .i64 (sgnC (ch s i6))]) ?_ ?_
    · refine s_test1_same (decide (ch s i6 = 45)) ?_ (fun h45 => ?_) (fun h45 => ?_)
      · simp only [o_pure, o_callF, POp.ev, Opd.ev, gv, setD, List.map, Option.some.injEq, exists_eq_left']
        refine (sNext_ok _ _ _ _ _ _ _ _ _ h3).eq ?_
        simp only [o_cont, o_pure, o_nil, POp.ev, Opd.ev, gv, setD, Option.some.injEq, exists_eq_left', binV, ne_eq, not_true_eq_false, if_false, e45]
        simp
      · have h45' : ch s i6 = 45 := by simpa using h45
        refine s_reg1 ?_
        simp only [o_pure, o_nil, POp.ev, Opd.ev, setD, List.set, Option.some.injEq, exists_eq_left']
        simp +decide only [p_seq_normal]
        unfold sgnC
        rw [if_pos h45']
        exact ⟨trivial, rfl⟩
      · have h45' : ¬ ch s i6 = 45 := by simpa using h45
        refine s_skip1 ?_
        simp +decide only [p_seq_normal]
        unfold sgnC
        rw [if_neg h45']
        exact ⟨trivial, rfl⟩
    rintro e' H' ⟨rfl, rfl⟩
    refine s_reg ?_
    simp only [o_pure, o_eff, o_nil, POp.ev, Opd.ev, EOp.ev, gv, setD, Option.some.injEq, exists_eq_left', binV, load1V, nilchkV, fadV, ne_eq, not_true_eq_false, if_false, Nat.zero_add, h3.c1, add1 (i := i6) (by omega), e4]
    replace L1 := L1.step c4 hqn
    replace L2 := L2.step c4 hqn
    replace hU := hU.chg c4 (.inr (by omega))
    have hcall := hF H4 ⟨i6 + 1, m6, l6⟩ (by omega) (by omega) hlt6 h4
    refine s_regT1 ?_
    simp only [o_pure, o_eff, o_callF, t_op, t_alt, t_nil, o_nil, POp.ev, Opd.ev, EOp.ev, gv, setD, List.map, Option.map_some, Option.some.injEq, exists_eq_left', extV, L2.load2]
    refine ⟨?_, ?_⟩
    ·
      refine hcall.mono ?_
      intro v H9 hr
      obtain ⟨c9, X, slx, i7, d7, m7, w7, l7, rfl, gX, fX, h9, hi7, hcase7⟩ := ResP.cases hadv (by omega) hr
      have hn9 := c9.next
      have L19 := L1.step c9 hqn
      have L29 := L2.step c9 hqn
      have hU9 := hU.chg c9 (.inr (by omega))
      simp only [o_cont, o_nil, gv, setD]
      refine (txAdd_ok lim su slx U X (sgnC (ch s i6)) H9 (by omega) hU9.sl fX.sl gU gX (sgnC_or _)).mono ?_
      rintro _ H10 ⟨⟨sl2, den2, ok, rfl, hmk⟩, hx10⟩
      have hn10 := hx10.next
      simp only [o_cont, o_nil, gv, setD, Option.some.injEq, exists_eq_left', List.getElem?_toArray, List.getElem?_cons_zero, List.getElem?_cons_succ]
      refine (sKeep_ok lim q s i7 d7 m7 w7 l7 ok sl2 den2 H10 hq (by omega) (by omega) (h9.ext hx10 (by omega))).mono ?_
      rintro _ H11 ⟨rfl, h11, c11⟩
      have hn11 := c11.next
      obtain ⟨H12, e12, L12, c12, n12⟩ := ((L29.ext hx10).step c11 hqn).put2 hl (if ok then sl2 else .slice none 0 0) (.int .i64 (if ok then den2 else 1))
      simp only [o_cont, o_nil, gv, setD, Option.some.injEq, exists_eq_left', e12]
      try simp +decide only [p_seq_normal, p_block_normal]
      have hge2' := L29.ge
      have L112 := ((L19.ext hx10).step c11 hqn).other c12 (by omega) hge2'
      have h12 := h11.over c12 (by omega) (by omega)
      cases hmv : addV U X (sgnC (ch s i6)) with
      | none =>
        rw [hmv] at hmk
        subst hmk
        simp only [Bool.not_false, Bool.or_true] at h12
        refine Round.mk _ ?_ ⟨_, _, zV, i7, d7, m7, w7, true, rfl, zV_good, .inl ⟨rfl, rfl⟩, L112, L12, h12, hi7, ?_, rfl⟩
        · rcases hcase7 with ⟨rfl, _⟩ | ⟨rfl, _, g1, _, _⟩
          · simp only [reduceIte]
            omega
          · simp only [reduceIte, Bool.false_eq_true] at g1 ⊢
            omega
        · rcases hcase7 with ⟨rfl, hn⟩ | ⟨rfl, rfl, g1, g2, hsm⟩
          · rw [hn] at hRk
            exact .inl ⟨rfl, hRk⟩
          · rw [hsm, Option.bind_some] at hRk
            simp only [hmv, keepF] at hRk
            simp only at g1
            exact .inr ⟨rfl, rfl, g2, _, by omega, hRk⟩
      | some Y =>
        rw [hmv] at hmk
        obtain ⟨rfl, rfl, fY⟩ := hmk
        simp only [Bool.not_true, Bool.or_false] at h12
        have hY := (((fY.held [p2, p1] (by simp; omega)).chg c11 (.inr (by omega))).chg c12 (.inl (by simp)))
        refine Round.mk _ ?_ ⟨_, _, Y, i7, d7, m7, w7, l7, rfl, addV_good gU gX (sgnC_or _) hmv, hY.imp id (fun ⟨b, g1, g2, g3, g4⟩ => ⟨b, by omega, g2, g3, g4⟩), L112, L12, h12, hi7, ?_, rfl⟩
        · rcases hcase7 with ⟨rfl, _⟩ | ⟨rfl, _, g1, _, _⟩
          · simp only [reduceIte]
            omega
          · simp only [reduceIte, Bool.false_eq_true] at g1 ⊢
            omega
        · rcases hcase7 with ⟨rfl, hn⟩ | ⟨rfl, rfl, g1, g2, hsm⟩
          · rw [hn] at hRk
            exact .inl ⟨rfl, hRk⟩
          · rw [hsm, Option.bind_some] at hRk
            simp only [hmv, keepF] at hRk
            simp only at g1
            exact .inr ⟨rfl, rfl, g2, _, by omega, hRk⟩
    ·
      refine hcall.mono ?_
      intro v H9 hr
      obtain ⟨c9, X, slx, i7, d7, m7, w7, l7, rfl, gX, fX, h9, hi7, hcase7⟩ := ResP.cases hadv (by omega) hr
      have hn9 := c9.next
      have L19 := L1.step c9 hqn
      have L29 := L2.step c9 hqn
      have hU9 := hU.chg c9 (.inr (by omega))
      simp only [o_cont, o_nil, gv, setD, Option.map_some, Option.some.injEq, exists_eq_left', L29.load2]
      refine (txAdd_ok lim su slx U X (sgnC (ch s i6)) H9 (by omega) hU9.sl fX.sl gU gX (sgnC_or _)).mono ?_
      rintro _ H10 ⟨⟨sl2, den2, ok, rfl, hmk⟩, hx10⟩
      have hn10 := hx10.next
      simp only [o_cont, o_nil, gv, setD, Option.some.injEq, exists_eq_left', List.getElem?_toArray, List.getElem?_cons_zero, List.getElem?_cons_succ]
      refine (sKeep_ok lim q s i7 d7 m7 w7 l7 ok sl2 den2 H10 hq (by omega) (by omega) (h9.ext hx10 (by omega))).mono ?_
      rintro _ H11 ⟨rfl, h11, c11⟩
      have hn11 := c11.next
      obtain ⟨H12, e12, L12, c12, n12⟩ := ((L29.ext hx10).step c11 hqn).put2 hl (if ok then sl2 else .slice none 0 0) (.int .i64 (if ok then den2 else 1))
      simp only [o_cont, o_nil, gv, setD, Option.some.injEq, exists_eq_left', e12]
      try simp +decide only [p_seq_normal, p_block_normal]
      have hge2' := L29.ge
      have L112 := ((L19.ext hx10).step c11 hqn).other c12 (by omega) hge2'
      have h12 := h11.over c12 (by omega) (by omega)
      cases hmv : addV U X (sgnC (ch s i6)) with
      | none =>
        rw [hmv] at hmk
        subst hmk
        simp only [Bool.not_false, Bool.or_true] at h12
        refine Round.mk _ ?_ ⟨_, _, zV, i7, d7, m7, w7, true, rfl, zV_good, .inl ⟨rfl, rfl⟩, L112, L12, h12, hi7, ?_, rfl⟩
        · rcases hcase7 with ⟨rfl, _⟩ | ⟨rfl, _, g1, _, _⟩
          · simp only [reduceIte]
            omega
          · simp only [reduceIte, Bool.false_eq_true] at g1 ⊢
            omega
        · rcases hcase7 with ⟨rfl, hn⟩ | ⟨rfl, rfl, g1, g2, hsm⟩
          · rw [hn] at hRk
            exact .inl ⟨rfl, hRk⟩
          · rw [hsm, Option.bind_some] at hRk
            simp only [hmv, keepF] at hRk
            simp only at g1
            exact .inr ⟨rfl, rfl, g2, _, by omega, hRk⟩
      | some Y =>
        rw [hmv] at hmk
        obtain ⟨rfl, rfl, fY⟩ := hmk
        simp only [Bool.not_true, Bool.or_false] at h12
        have hY := (((fY.held [p2, p1] (by simp; omega)).chg c11 (.inr (by omega))).chg c12 (.inl (by simp)))
        refine Round.mk _ ?_ ⟨_, _, Y, i7, d7, m7, w7, l7, rfl, addV_good gU gX (sgnC_or _) hmv, hY.imp id (fun ⟨b, g1, g2, g3, g4⟩ => ⟨b, by omega, g2, g3, g4⟩), L112, L12, h12, hi7, ?_, rfl⟩
        · rcases hcase7 with ⟨rfl, _⟩ | ⟨rfl, _, g1, _, _⟩
          · simp only [reduceIte]
            omega
          · simp only [reduceIte, Bool.false_eq_true] at g1 ⊢
            omega
        · rcases hcase7 with ⟨rfl, hn⟩ | ⟨rfl, rfl, g1, g2, hsm⟩
          · rw [hn] at hRk
            exact .inl ⟨rfl, hRk⟩
          · rw [hsm, Option.bind_some] at hRk
            simp only [hmv, keepF] at hRk
            simp only at g1
            exact .inr ⟨rfl, rfl, g2, _, by omega, hRk⟩
  · refine s_exit1 ?_
    simp +decide only [p_seq_normal, p_seq_exit, p_block_exit, reduceIte]
    obtain ⟨H9, e9, L9, c9, n9⟩ := L1.put2 hl su (.int .i64 U.den)
    refine s_reg ?_
    simp only [o_pure, o_eff, o_nil, POp.ev, Opd.ev, EOp.ev, gv, setD, Option.some.injEq, exists_eq_left', L2.load2, e9]
    refine s_ret1 ?_
    simp +decide only [p_fin_ret, resV, resOne, gv, Option.some.injEq, exists_eq_left', L9.load2]
    have h9 := h3.over c9 (by omega) (by omega)
    refine ⟨L9.chg, U, gU, ⟨su, rfl, (hU.chg c9 (.inl (by simp))).slf⟩, ?_⟩
    rcases hcase with ⟨rfl, hn⟩ | ⟨rfl, rfl, hi6s, k, hk, hRk⟩
    · rw [hn]
      exact ⟨_, _, _, _, hi6, h9⟩
    · obtain ⟨k, rfl⟩ : ∃ k', k = k' + 1 := ⟨k - 1, by omega⟩
      rw [hRk, sumLoop, if_neg (by simpa using hstop)]
      exact ⟨rfl, h9⟩

theorem sS_ok (lim q : Nat) (s : ByteArray) (hq : lim ≤ q) (hs : s.size ≤ 100) : ∀ k : Nat, k ≤ 4 → SOk lim q s (4 - (k : Int)) (s.size + k + 2) n_spec_txReader_sum (pS s k)
  | 0, _ => by
    have h1 := sBase_ok lim q s 4 (s.size + 1) none hq hs (by omega) (by omega) (by intro f h; cases h) (fun _ => rfl)
    have a1 : Adv s (pBase s 4 none) := adv_base (by intro f h; cases h)
    have h2 := sFactor_ok lim q s 4 (s.size + 2) _ hq hs (by omega) a1 h1
    have h3 := sProd_ok lim q s 4 (s.size + 2) _ hq hs (by omega) (adv_factor a1) h2
    exact sSum_ok lim q s 4 (s.size + 2) _ hq hs (by omega) (adv_prod (adv_factor a1)) h3
  | k + 1, hk => by
    have ih := sS_ok lim q s hq hs k (by omega)
    have e1 : (4 : Int) - (k : Int) = 3 - (k : Int) + 1 := by omega
    have e2 : (4 : Int) - ((k + 1 : Nat) : Int) = 3 - (k : Int) := by omega
    rw [e1] at ih
    rw [e2]
    have h1 := sBase_ok lim q s (3 - (k : Int)) (s.size + k + 2) (some (pS s k)) hq hs (by omega) (by omega) (by intro f h; cases h; exact ⟨by omega, adv_pS s k, ih⟩) (by intro h; cases h)
    have a1 : Adv s (pBase s (3 - (k : Int)) (some (pS s k))) := adv_base (by intro f h; cases h; exact adv_pS s k)
    have h2 := sFactor_ok lim q s (3 - (k : Int)) (s.size + (k + 1) + 2) _ hq hs (by omega) a1 h1
    have h3 := sProd_ok lim q s (3 - (k : Int)) (s.size + (k + 1) + 2) _ hq hs (by omega) (adv_factor a1) h2
    exact sSum_ok lim q s (3 - (k : Int)) (s.size + (k + 1) + 2) _ hq hs (by omega) (adv_prod (adv_factor a1)) h3

/-- what the whole reading answers -/
def ReadS (s : ByteArray) (H : AHeap) (v : Value) (H' : AHeap) : Prop :=
  Ext H H' ∧ ∃ (q : Nat) (X : V) (sl : Value) (i d m : Int) (w l : Bool), v = .tuple #[.agg #[sl, .int .i64 X.den], pt q] ∧ q < H'.next ∧ SRd H' q s i d m w l ∧ Good X ∧ SlF H' H.next sl X.ts ∧
    (match pRead s with | some r => w = false ∧ m = r.1.most ∧ l = r.1.large ∧ X = r.2 | none => w = true)

theorem txRead_ok (lim : Nat) (s : ByteArray) (H : AHeap) (hl : lim ≤ H.next) : ACalls Tryd.prog lim n_spec_txRead [.string s] H fun v H' => ReadS s H v H' := by
  refine is_spec_txRead.go rfl ?_
  unfold c_spec_txRead
  refine s_reg ?_
  simp only [o_pure, o_eff, o_nil, POp.ev, Opd.ev, EOp.ev, env0, gu, setD, List.set, Option.some.injEq, exists_eq_left']
  have L1 := Own.mk' (Ext.refl H) [.slice none 0 0, .int .i64 0]
  generalize H.alloc [.slice none 0 0, .int .i64 0] = H1 at L1 ⊢
  have hn1 := L1.lt
  have hnx1 := L1.ext.next
  generalize hp1 : H.next = p1 at L1 hn1
  have hf : fillV [.string ⟨⟨[]⟩⟩, .int .i64 0, .int .i64 0, .int .i64 0, .bool false, .bool false] [(0, 1, .string s)] = some [.string s, .int .i64 0, .int .i64 0, .int .i64 0, .bool false, .bool false] := rfl
  have hbx : ∀ cs : List Value, boxH H1 (.agg cs.toArray) = some (pt H1.next, H1.alloc cs) := fun cs => rfl
  have Lq := Own.mk' L1.ext [.string s, .int .i64 0, .int .i64 0, .int .i64 0, .bool false, .bool false]
  have hx2 := Ext.alloc H1 [.string s, .int .i64 0, .int .i64 0, .int .i64 0, .bool false, .bool false]
  refine s_reg ?_
  simp only [o_pure, o_eff, o_nil, POp.ev, Opd.ev, EOp.ev, gv, setD, List.set, List.map, Option.map_some, Option.some.injEq, exists_eq_left', hf, hbx]
  replace L1 := L1.step hx2
  generalize H1.alloc [.string s, .int .i64 0, .int .i64 0, .int .i64 0, .bool false, .bool false] = H2 at L1 Lq hx2 ⊢
  have hn2 := Lq.lt
  have hnx2 := hx2.next
  generalize H1.next = q at Lq hn1 hn2 hnx1 hnx2
  have h2 : SRd H2 q s ((0 : Nat) : Int) 0 0 false false := Lq.blk
  have hgeq := Lq.ge
  have hf1 : fillV [.slice none 0 0, .int .i64 0] [(1, 1, .int .i64 1)] = some [.slice none 0 0, .int .i64 1] := rfl
  refine s_test ?_
  simp only [o_pure, o_nil, POp.ev, Opd.ev, gv, setD, Option.some.injEq, exists_eq_left', binV, slenV, ne_eq, not_true_eq_false, if_false]
  refine Test.split (fun hbig => ?_) (fun hsm => ?_)
  · have hb : ¬ s.size ≤ 100 := by simp at hbig; omega
    obtain ⟨H3, e3, h3, c3⟩ := h2.s4 (lim := lim) (by omega) true
    have L13 := L1.other c3 (by omega) hgeq
    obtain ⟨H4, e4, L4, c4, n4⟩ := L13.put2 hl (.slice none 0 0) (.int .i64 1)
    have hn3 := c3.next
    refine s_reg ?_
    simp only [o_pure, o_eff, o_nil, POp.ev, Opd.ev, EOp.ev, gv, setD, Option.some.injEq, exists_eq_left', nilchkV, fadV, Nat.zero_add, e3]
    refine s_reg ?_
    simp only [o_pure, o_eff, o_nil, POp.ev, Opd.ev, EOp.ev, gv, setD, List.set, List.map, Option.map_some, Option.some.injEq, exists_eq_left', hf1, e4]
    refine s_ret1 ?_
    simp +decide only [p_seq_ret, p_fin_ret, resV, resOne, resL, gv, Option.some.injEq, exists_eq_left', Option.bind_some, Option.map_some, L4.load2]
    refine ⟨L4.ext, q, zV, _, _, _, _, _, _, rfl, by omega, h3.over c4 (by omega) (by omega), zV_good, SlF.nil _ _, ?_⟩
    unfold pRead
    rw [if_neg hb]
  · have hb : s.size ≤ 100 := by simp at hsm; omega
    have hcall := sS_ok lim q s (by omega) hb 4 (by omega) H2 ⟨0, 0, false⟩ (by omega) hn2 (Nat.zero_le _) h2
    refine s_skip1 ?_
    simp +decide only [p_seq_normal]
    refine s_reg ?_
    simp only [o_pure, o_callF, POp.ev, Opd.ev, gv, setD, List.map, Option.some.injEq, exists_eq_left']
    refine hcall.mono ?_
    intro v H3 hr
    obtain ⟨c3, X, slx, i6, d6, m6, w6, l6, rfl, gX, fX, h3, hi6, hcase⟩ := ResP.cases (adv_pS s 4) (by omega) hr
    have hn3 := c3.next
    have L13 := L1.other c3 (by omega) hgeq
    simp only [o_cont, o_eff, o_nil, Opd.ev, EOp.ev, gv, setD, List.set, Option.some.injEq, exists_eq_left', store2_new (lim := lim) (H := H3) (by omega)]
    have L4 := Own.mk' L13.ext [slx, .int .i64 X.den]
    have hx4 := Ext.alloc H3 [slx, .int .i64 X.den]
    have h4 := h3.ext hx4 (by omega)
    have f4 := fX.ext hx4
    have L14 := L13.step hx4
    generalize H3.alloc [slx, .int .i64 X.den] = H4 at L4 hx4 h4 f4 L14 ⊢
    have hn4 := hx4.next
    have hge4 : H3.next ≤ H3.next := Nat.le_refl _
    generalize hp4 : H3.next = p4 at L4
    have hcase' : (match pRead s with | some r => (w6 || !((i6 : Int) == (s.size : Int))) = false ∧ m6 = r.1.most ∧ l6 = r.1.large ∧ X = r.2 | none => (w6 || !((i6 : Int) == (s.size : Int))) = true) := by
      unfold pRead
      rw [if_pos hb, nat_beq]
      rcases hcase with ⟨rfl, hn⟩ | ⟨rfl, _, _, _, hsm⟩
      · rw [hn]; simp
      · rw [hsm]
        simp only [Option.bind_some]
        by_cases hi : i6 = s.size
        · rw [if_pos hi]; simp [hi]
        · rw [if_neg hi]; simp [hi]
    refine s_cut (fun e' H' => Chg q H4 H' ∧ SRd H' q s i6 d6 m6 (w6 || !((i6 : Int) == (s.size : Int))) l6 ∧ e' = [.string s, pt p1, .pointer none, pt q, pt p4]) ?_ ?_
    · have ebn : ((i6 : Int) != (s.size : Int)) = !((i6 : Int) == (s.size : Int)) := rfl
      refine s_test1_same (!((i6 : Int) == (s.size : Int))) ?_ (fun hne => ?_) (fun hne => ?_)
      · simp only [o_pure, o_nil, POp.ev, Opd.ev, gv, setD, Option.some.injEq, exists_eq_left', binV, load1V, nilchkV, fadV, slenV, ne_eq, not_true_eq_false, if_false, Nat.zero_add, h4.c1, ebn]
        simp
      · obtain ⟨H5, e5, h5, c5⟩ := h4.s4 (lim := lim) (by omega) true
        refine s_reg1 ?_
        simp only [o_pure, o_eff, o_nil, POp.ev, Opd.ev, EOp.ev, gv, setD, Option.some.injEq, exists_eq_left', nilchkV, fadV, Nat.zero_add, e5]
        simp +decide only [p_seq_normal]
        rw [hne, Bool.or_true]
        exact ⟨c5, h5, trivial⟩
      · refine s_skip1 ?_
        simp +decide only [p_seq_normal]
        rw [hne, Bool.or_false]
        exact ⟨Chg.refl _ _, h4, trivial⟩
    · rintro e' H5 ⟨c5, h5, rfl⟩
      have L15 := L14.other c5 (by omega) hgeq
      have L45 := L4.other c5 (by omega) hgeq
      have hn5 := c5.next
      obtain ⟨H6, e6, L6, c6, n6⟩ := L15.put2 hl slx (.int .i64 X.den)
      refine s_reg ?_
      simp only [o_pure, o_eff, o_nil, POp.ev, Opd.ev, EOp.ev, gv, setD, List.set, Option.some.injEq, exists_eq_left', L45.load2, e6]
      refine s_ret1 ?_
      simp +decide only [p_fin_ret, resV, resOne, resL, gv, Option.some.injEq, exists_eq_left', Option.bind_some, Option.map_some, L6.load2]
      exact ⟨L6.ext, q, X, slx, _, _, _, _, _, rfl, by omega, h5.over c6 (by omega) (by omega), gX, ((f4.chg c5 (.inl (by omega))).chg c6 (.inl (by omega))).low (by omega), hcase'⟩

end Go.Proofs.YtooaafekllkpbaaDoor

/- The reader of expressions, implementation: the next byte, numbers; no condition beyond stated ranges. -/
namespace Go.Proofs.YtooaafekllkpbaaDoor
open Go.Ab
set_option linter.unusedSimpArgs false
set_option linter.unusedVariables false

/-! ### the library's search of a byte, by its own contract -/
theorem closed_eq {β : Inj} {v v' : Value} (h : VR β v v') (hc : closedV v = true) : v' = v := by
  cases h <;> first | rfl | (simp [closedV] at hc; done)
theorem closed_alls {β : Inj} : ∀ {l l' : List Value}, VRs β l l' → l.all closedV = true → l' = l
  | [], [], _, _ => rfl
  | [], _ :: _, h, _ => by have := h.1; simp at this
  | _ :: _, [], h, _ => by have := h.1; simp at this
  | x :: l, y :: l', h, hc => by
    simp only [List.all_cons, Bool.and_eq_true] at hc
    obtain ⟨h1, h2⟩ := h.of_cons
    rw [closed_eq h1 hc.1, closed_alls h2 hc.2]
theorem acalls_of_calls {P : Program} {lim : Nat} {f : FuncId} {args : List Value} {H : AHeap} {v : Value} (he : Enterable P f) (hc : args.all closedV = true) (hv : closedV v = true)
    (h : ∀ w, Calls P f args.toArray w fun e w' => e = .returned v ∧ w' = w) : ACalls P lim f args H fun u H' => u = v ∧ H' = H := by
  refine ⟨he, fun β w args' hw hvs => ?_⟩
  have e : args' = args.toArray := by
    have := closed_alls hvs hc
    cases args'
    simp at this
    rw [this]
  subst e
  refine (h w).mono ?_
  rintro e w' ⟨rfl, rfl⟩
  exact ⟨v, v, H, β, rfl, ⟨rfl, rfl⟩, VR.closed hv, hw, Fr.refl _ _ _ _⟩
set_option maxHeartbeats 1000000 in
set_option maxRecDepth 100000 in
theorem stringslite_IndexByte (s : ByteArray) (c : Int) (w : World) :
    Calls Tryd.prog n_internal_stringslite_IndexByte #[.string s, .int .u8 c] w fun e w' => e = .returned (.int .i64 (Lib.indexByte s.data.toList c.toNat.toUInt8)) ∧ w' = w := by
  go_enter Tryd.func61, Tryd.ntmps61
  go_wp2
  rw [run_callFunc_extern Tryd.func77 (by kernel_rfl) (by kernel_rfl) (by kernel_rfl) (e := Extern.BytealgIndexByte.indexByte) (by kernel_rfl), Lib.run_indexByteString]
  simp only [Result.andThen]
  rw [Oper.upon_value]
  go_wp2
  go_ret
  exact ⟨rfl, rfl⟩
set_option maxHeartbeats 1000000 in
set_option maxRecDepth 100000 in
theorem strings_IndexByte (s : ByteArray) (c : Int) (w : World) :
    Calls Tryd.prog n_strings_IndexByte #[.string s, .int .u8 c] w fun e w' => e = .returned (.int .i64 (Lib.indexByte s.data.toList c.toNat.toUInt8)) ∧ w' = w := by
  go_enter Tryd.func65, Tryd.ntmps65
  go_wp2_with (go_at_call 61; refine (stringslite_IndexByte _ _ _).mono ?_; rintro e w' ⟨rfl, rfl⟩)
  go_ret
  exact ⟨rfl, rfl⟩
theorem indexByte_ok (lim : Nat) (s : ByteArray) (c : Int) (H : AHeap) : ACalls Tryd.prog lim n_strings_IndexByte [.string s, .int .u8 c] H fun v H' => v = .int .i64 (Lib.indexByte s.data.toList c.toNat.toUInt8) ∧ H' = H :=
  acalls_of_calls is_strings_IndexByte.enter rfl rfl fun w => strings_IndexByte s c w
theorem idx_mem (c : UInt8) : ∀ l : List UInt8, decide (Lib.indexByte l c ≥ 0) = l.any fun b => b == c
  | [] => rfl
  | b :: l => by
    have ih := idx_mem c l
    have hge := Lib.indexByte_ge l c
    rw [List.any_cons, ← ih, show Lib.indexByte (b :: l) c = if b == c then 0 else if Lib.indexByte l c == -1 then -1 else Lib.indexByte l c + 1 from rfl]
    cases hb : (b == c)
    · simp only [Bool.false_eq_true, if_false, Bool.false_or]
      by_cases h1 : Lib.indexByte l c = -1
      · simp [h1]
      · have h2 : (Lib.indexByte l c == -1) = false := by simpa using h1
        simp only [h2, Bool.false_eq_true, if_false]
        exact decide_eq_decide.2 (by omega)
    · simp

/-! ### the reader's cells -/
def IRd (H : AHeap) (q : Nat) (s : ByteArray) (i d m : Int) (f t : Bool) : Prop := H.blk q = some [.string s, .int .i64 i, .int .i64 d, .int .i64 m, .bool f, .bool t, .int .i64 0, .slice none 0 0]
section
variable {lim q : Nat} {H H' : AHeap} {s : ByteArray} {i d m : Int} {f t : Bool}
theorem IRd.c0 (h : IRd H q s i d m f t) : H.cell q 0 = some (.string s) := cell_blk h 0
theorem IRd.c1 (h : IRd H q s i d m f t) : H.cell q 1 = some (.int .i64 i) := cell_blk h 1
theorem IRd.c2 (h : IRd H q s i d m f t) : H.cell q 2 = some (.int .i64 d) := cell_blk h 2
theorem IRd.c3 (h : IRd H q s i d m f t) : H.cell q 3 = some (.int .i64 m) := cell_blk h 3
theorem IRd.c4 (h : IRd H q s i d m f t) : H.cell q 4 = some (.bool f) := cell_blk h 4
theorem IRd.c5 (h : IRd H q s i d m f t) : H.cell q 5 = some (.bool t) := cell_blk h 5
theorem IRd.ext (h : IRd H q s i d m f t) (hx : Ext H H') (hq : q < H.next) : IRd H' q s i d m f t := by unfold IRd at *; rw [hx.blk q hq]; exact h
theorem IRd.over {p : Nat} (h : IRd H q s i d m f t) (hx : Chg p H H') (hq : q < H.next) (hne : q ≠ p) : IRd H' q s i d m f t := by unfold IRd at *; rw [hx.blk q hq hne]; exact h
theorem IRd.s1 (h : IRd H q s i d m f t) (hl : lim ≤ q) (x : Int) : ∃ H', storeH lim H 1 (.pointer (some ⟨q, 1, none⟩)) (.int .i64 x) = some (undef, H') ∧ IRd H' q s x d m f t ∧ Chg q H H' :=
  ⟨_, store_cell rfl hl h (by simp), put_same _ _ _, Chg.put _ _ _⟩
theorem IRd.s2 (h : IRd H q s i d m f t) (hl : lim ≤ q) (x : Int) : ∃ H', storeH lim H 1 (.pointer (some ⟨q, 2, none⟩)) (.int .i64 x) = some (undef, H') ∧ IRd H' q s i x m f t ∧ Chg q H H' :=
  ⟨_, store_cell rfl hl h (by simp), put_same _ _ _, Chg.put _ _ _⟩
theorem IRd.s3 (h : IRd H q s i d m f t) (hl : lim ≤ q) (x : Int) : ∃ H', storeH lim H 1 (.pointer (some ⟨q, 3, none⟩)) (.int .i64 x) = some (undef, H') ∧ IRd H' q s i d x f t ∧ Chg q H H' :=
  ⟨_, store_cell rfl hl h (by simp), put_same _ _ _, Chg.put _ _ _⟩
theorem IRd.s4 (h : IRd H q s i d m f t) (hl : lim ≤ q) (x : Bool) : ∃ H', storeH lim H 1 (.pointer (some ⟨q, 4, none⟩)) (.bool x) = some (undef, H') ∧ IRd H' q s i d m x t ∧ Chg q H H' :=
  ⟨_, store_cell rfl hl h (by simp), put_same _ _ _, Chg.put _ _ _⟩
theorem IRd.s5 (h : IRd H q s i d m f t) (hl : lim ≤ q) (x : Bool) : ∃ H', storeH lim H 1 (.pointer (some ⟨q, 5, none⟩)) (.bool x) = some (undef, H') ∧ IRd H' q s i d m f x ∧ Chg q H H' :=
  ⟨_, store_cell rfl hl h (by simp), put_same _ _ _, Chg.put _ _ _⟩
end

def hitB (nd : List UInt8) (s : ByteArray) (i : Nat) : Bool := decide (i < s.size) && nd.any fun b => b.toNat == ch s i
theorem iNext_ok (lim q : Nat) (nd : List UInt8) (s : ByteArray) (i : Nat) (d m : Int) (f t : Bool) (H : AHeap) (hq : lim ≤ q) (hi : i ≤ 1000) (h : IRd H q s i d m f t) :
    ACalls Tryd.prog lim n_impl_reader_next [pt q, .string ⟨⟨nd⟩⟩] H fun v H' => v = .tuple #[.int .u8 (if hitB nd s i then (ch s i : Int) else 0), .bool (hitB nd s i)] ∧ IRd H' q s ((if hitB nd s i then i + 1 else i : Nat) : Int) d m f t ∧ Chg q H H' := by
  refine is_impl_reader_next.go rfl ?_
  unfold c_impl_reader_next
  refine s_reg ?_
  simp only [o_pure, o_nil, POp.ev, Opd.ev, env0, gu, setD, List.set, Option.some.injEq, exists_eq_left']
  refine s_test_same (hitB nd s i) ?_ (fun hh => ?_) (fun hh => ?_)
  · simp only [o_pure, o_guard, POp.ev, Opd.ev, gv, setD, Option.some.injEq, exists_eq_left', binV, load1V, nilchkV, fadV, slenV, ne_eq, not_true_eq_false, if_false, Nat.zero_add, h.c0, h.c1]
    unfold hitB
    by_cases hlt : i < s.size
    · have e0 : decide ((i : Int) < (s.size : Int)) = true := by simpa using hlt
      obtain ⟨e1, e2⟩ := ch_at hlt
      have e3 : sixV (.string s) (.int .i64 (i : Int)) = some (.int .u8 (ch s i : Int)) := by simp [sixV, e1, e2]
      have e5 : ((ch s i : Int)).toNat.toUInt8 = s[i] := by rw [e2]; simp
      simp only [o_pure, o_callF, o_guard, gk_tt, POp.ev, Opd.ev, gv, setD, List.map, Option.some.injEq, exists_eq_left', load1V, nilchkV, fadV, Nat.zero_add, h.c0, h.c1, e0, e3]
      refine (indexByte_ok _ _ _ _).eq ?_
      simp only [o_cont, o_pure, o_guard, gk_tt, o_nil, POp.ev, Opd.ev, gv, setD, Option.some.injEq, exists_eq_left', pickV, binV, ne_eq, not_true_eq_false, if_false, e5, idx_mem]
      have e4 : (fun b : UInt8 => b == s[i]) = fun b : UInt8 => b.toNat == ch s i := by
        funext b
        rw [e2, Bool.eq_iff_iff, beq_iff_eq, beq_iff_eq]
        exact UInt8.toNat_inj.symm
      rw [e4]
      simp [hlt]
    · have e0 : decide ((i : Int) < (s.size : Int)) = false := by simpa using hlt
      simp only [o_pure, o_guard, gk_ft, o_nil, POp.ev, Opd.ev, gv, setD, Option.some.injEq, exists_eq_left', pickV, e0]
      simp [hlt]
  · have hlt : i < s.size := by
      unfold hitB at hh
      simp at hh
      exact hh.1
    obtain ⟨e1, e2⟩ := ch_at hlt
    obtain ⟨H1, t1, h1, c1⟩ := h.s1 hq ((i + 1 : Nat) : Int)
    have w1 : IntKind.i64.wrap (((i + 1 : Nat) : Int) - 1) = (i : Int) := by rw [IntKind.wrap_i64]; omega
    have e3 : sixV (.string s) (.int .i64 (i : Int)) = some (.int .u8 (ch s i : Int)) := by simp [sixV, e1, e2]
    refine s_reg ?_
    simp only [o_pure, o_eff, o_nil, POp.ev, Opd.ev, EOp.ev, gv, setD, Option.some.injEq, exists_eq_left', binV, load1V, nilchkV, fadV, ne_eq, not_true_eq_false, if_false, Nat.zero_add, h.c1, add1 (i := i) (by omega), t1]
    refine s_reg ?_
    simp only [o_pure, o_nil, POp.ev, Opd.ev, gv, setD, List.set, Option.some.injEq, exists_eq_left', binV, load1V, nilchkV, fadV, ne_eq, not_true_eq_false, if_false, Nat.zero_add, h1.c0, h1.c1, w1, e3]
    refine s_ret1 ?_
    simp +decide only [p_seq_ret, p_fin_ret, resV, resOne, resL, gv, Option.some.injEq, exists_eq_left', Option.bind_some, Option.map_some]
    rw [hh, if_pos rfl, if_pos rfl]
    exact ⟨rfl, h1, c1⟩
  · refine s_skip1 ?_
    simp +decide only [p_seq_normal]
    refine s_reg ?_
    simp only [o_pure, o_nil, POp.ev, Opd.ev, setD, List.set, Option.some.injEq, exists_eq_left']
    refine s_ret1 ?_
    simp +decide only [p_fin_ret, resV, resOne, resL, gv, Option.some.injEq, exists_eq_left', Option.bind_some, Option.map_some]
    rw [hh]
    exact ⟨rfl, h, Chg.refl _ _⟩
theorem hit_eq {nd : List UInt8} (h0 : nd.all (fun b => b.toNat != 0) = true) (s : ByteArray) (i : Nat) : hitB nd s i = nd.any fun b => b.toNat == ch s i := by
  unfold hitB
  by_cases hi : i < s.size
  · simp [hi]
  · rw [ch_end (by omega)]
    have : (nd.any fun b => b.toNat == 0) = false := by
      rw [List.any_eq_false]
      intro b hb
      have := List.all_eq_true.1 h0 b hb
      simpa using this
    rw [this]
    simp
theorem hit_minus (s : ByteArray) (i : Nat) : hitB [45] s i = decide (ch s i = 45) := by
  rw [hit_eq (by decide), Bool.eq_iff_iff, decide_eq_true_iff]
  simp only [List.any_cons, List.any_nil, Bool.or_false, beq_iff_eq]
  exact eq_comm
theorem hit_pm (s : ByteArray) (i : Nat) : hitB [43, 45] s i = decide (ch s i = 43 ∨ ch s i = 45) := by
  rw [hit_eq (by decide)]
  rw [Bool.eq_iff_iff]
  simp only [List.any_cons, List.any_nil, Bool.or_false, Bool.or_eq_true, beq_iff_eq, decide_eq_true_iff]
  change (43 = ch s i ∨ 45 = ch s i) ↔ _
  omega
theorem hit_times (s : ByteArray) (i : Nat) : hitB [42] s i = decide (ch s i = 42) := by
  rw [hit_eq (by decide), Bool.eq_iff_iff, decide_eq_true_iff]
  simp only [List.any_cons, List.any_nil, Bool.or_false, beq_iff_eq]
  exact eq_comm
theorem hit_hat (s : ByteArray) (i : Nat) : hitB [94] s i = decide (ch s i = 94) := by
  rw [hit_eq (by decide), Bool.eq_iff_iff, decide_eq_true_iff]
  simp only [List.any_cons, List.any_nil, Bool.or_false, beq_iff_eq]
  exact eq_comm
theorem hit_open (s : ByteArray) (i : Nat) : hitB [40] s i = decide (ch s i = 40) := by
  rw [hit_eq (by decide), Bool.eq_iff_iff, decide_eq_true_iff]
  simp only [List.any_cons, List.any_nil, Bool.or_false, beq_iff_eq]
  exact eq_comm
theorem hit_close (s : ByteArray) (i : Nat) : hitB [41] s i = decide (ch s i = 41) := by
  rw [hit_eq (by decide), Bool.eq_iff_iff, decide_eq_true_iff]
  simp only [List.any_cons, List.any_nil, Bool.or_false, beq_iff_eq]
  exact eq_comm
theorem hit_slash (s : ByteArray) (i : Nat) : hitB [47] s i = decide (ch s i = 47) := by
  rw [hit_eq (by decide), Bool.eq_iff_iff, decide_eq_true_iff]
  simp only [List.any_cons, List.any_nil, Bool.or_false, beq_iff_eq]
  exact eq_comm
theorem hit_xyz (s : ByteArray) (i : Nat) : hitB [120, 121, 122] s i = decide (120 ≤ ch s i ∧ ch s i ≤ 122) := by
  rw [hit_eq (by decide)]
  rw [Bool.eq_iff_iff]
  simp only [List.any_cons, List.any_nil, Bool.or_false, Bool.or_eq_true, beq_iff_eq, decide_eq_true_iff]
  change (120 = ch s i ∨ 121 = ch s i ∨ 122 = ch s i) ↔ _
  omega
theorem hit_04 (s : ByteArray) (i : Nat) : hitB [48, 49, 50, 51, 52] s i = decide (48 ≤ ch s i ∧ ch s i ≤ 52) := by
  rw [hit_eq (by decide)]
  rw [Bool.eq_iff_iff]
  simp only [List.any_cons, List.any_nil, Bool.or_false, Bool.or_eq_true, beq_iff_eq, decide_eq_true_iff]
  change (48 = ch s i ∨ 49 = ch s i ∨ 50 = ch s i ∨ 51 = ch s i ∨ 52 = ch s i) ↔ _
  omega
theorem hit_digit (s : ByteArray) (i : Nat) : hitB [48, 49, 50, 51, 52, 53, 54, 55, 56, 57] s i = isD (ch s i) := by
  rw [hit_eq (by decide)]
  unfold isD
  rw [Bool.eq_iff_iff]
  simp only [List.any_cons, List.any_nil, Bool.or_false, Bool.or_eq_true, Bool.and_eq_true, beq_iff_eq, decide_eq_true_iff]
  change (48 = ch s i ∨ 49 = ch s i ∨ 50 = ch s i ∨ 51 = ch s i ∨ 52 = ch s i ∨ 53 = ch s i ∨ 54 = ch s i ∨ 55 = ch s i ∨ 56 = ch s i ∨ 57 = ch s i) ↔ _
  omega

/-- what a number's reading answers: where there is none, it doesn't fit or stands at a digit -/
def NumI (s : ByteArray) (q : Nat) (i : Nat) (d m : Int) (t : Bool) (H : AHeap) (v : Value) (H' : AHeap) : Prop :=
  ∃ (n i' : Nat) (f' : Bool), v = .int .i64 n ∧ n ≤ 9999 ∧ i ≤ i' ∧ i' ≤ s.size ∧ IRd H' q s i' d m f' t ∧ Chg q H H' ∧ (match pNum s i with | some r => n = r.1 ∧ i' = r.2 ∧ f' = true | none => f' = false ∨ isD (ch s i') = true)
theorem numF_step {s : ByteArray} {k i n : Nat} (h : isD (ch s i) = true) : numF s (k + 1) i n = numF s k (i + 1) (10 * n + (ch s i - 48)) := by rw [numF, if_pos h]
theorem pNum_numF {s : ByteArray} {i : Nat} (h : isD (ch s i) = true) : pNum s i = numF s 4 i 0 := by rw [numF_step h]; unfold pNum; rw [if_pos h]; simp
theorem iNumber_ok (lim q : Nat) (s : ByteArray) (i : Nat) (d m : Int) (t : Bool) (H : AHeap) (hl : lim ≤ H.next) (hq : lim ≤ q) (hqn : q < H.next) (hs : s.size ≤ 100) (hi : i ≤ s.size) (h : IRd H q s i d m true t) :
    ACalls Tryd.prog lim n_impl_reader_number [pt q] H fun v H' => NumI s q i d m t H v H' := by
  refine is_impl_reader_number.go rfl ?_
  unfold c_impl_reader_number
  refine s_reg ?_
  simp only [o_pure, o_nil, POp.ev, Opd.ev, env0, gu, setD, List.set, Option.some.injEq, exists_eq_left']
  refine s_reg ?_
  simp only [o_pure, o_nil, POp.ev, Opd.ev, setD, List.set, Option.some.injEq, exists_eq_left']
  refine s_cut (fun e' H' => ∃ (c n k : Nat) (x4 x5 : Value), c + k = 4 ∧ i + c ≤ s.size ∧ n + 1 ≤ 10 ^ c ∧ IRd H' q s ((i + c : Nat) : Int) d m true t ∧ Chg q H H' ∧ (1 ≤ c → isD (ch s i) = true) ∧ (isD (ch s i) = true → pNum s i = numF s k (i + c) n) ∧ (isD (ch s (i + c)) = false ∨ k = 0) ∧ e' = [pt q, .int .i64 0, .int .i64 n, .int .i64 c, x4, x5]) ?_ ?_
  · refine s_block1 ?_
    refine s_loop1 (fun k e' H' => ∃ (c n : Nat) (x4 x5 : Value), c + k = 4 ∧ i + c ≤ s.size ∧ n + 1 ≤ 10 ^ c ∧ IRd H' q s ((i + c : Nat) : Int) d m true t ∧ Chg q H H' ∧ (1 ≤ c → isD (ch s i) = true) ∧ (isD (ch s i) = true → pNum s i = numF s k (i + c) n) ∧ e' = [pt q, .int .i64 0, .int .i64 n, .int .i64 c, x4, x5]) 4 ⟨0, 0, _, _, rfl, hi, by simp, h, Chg.refl _ _, by omega, fun hd => pNum_numF hd, rfl⟩ ?_
    clear h
    rintro k e' H1 ⟨c, n, x4, x5, hck, hjs, hn, h1, c1, hfirst, hrel, rfl⟩
    have hn1 := c1.next
    refine s_test ?_
    simp only [o_pure, o_nil, POp.ev, Opd.ev, gv, setD, Option.some.injEq, exists_eq_left', binV, ne_eq, not_true_eq_false, if_false]
    refine Test.split (fun hlt => ?_) (fun hlt => ?_)
    · have hc4 : c < 4 := by simp at hlt; omega
      have hn4 : 10 ^ c ≤ 10 ^ 3 := Nat.pow_le_pow_right (by omega) (by omega)
      refine s_skip1 ?_
      simp +decide only [p_seq_normal]
      refine s_block1 ?_
      refine s_reg ?_
      simp only [o_pure, o_callF, POp.ev, Opd.ev, gv, setD, List.map, Option.some.injEq, exists_eq_left']
      refine (iNext_ok lim q _ s (i + c) d m true t H1 hq (by omega) h1).mono ?_
      rintro _ H2 ⟨rfl, h2, c2⟩
      rw [hit_digit] at h2 ⊢
      simp only [o_cont, o_pure, o_nil, POp.ev, Opd.ev, gv, setD, List.set, Option.some.injEq, exists_eq_left', extV, List.getElem?_toArray, List.getElem?_cons_zero, List.getElem?_cons_succ]
      cases hd : isD (ch s (i + c))
      · refine s_test ?_
        simp only [o_pure, o_nil, POp.ev, Opd.ev, gv, setD, Option.some.injEq, exists_eq_left', unV, if_false, Bool.false_eq_true, Bool.not_false]
        refine Test.true_ (s_exit1 ?_)
        simp +decide only [p_seq_normal, p_seq_exit, p_block_exit, reduceIte]
        rw [hd] at h2
        simp only [Bool.false_eq_true, if_false] at h2
        exact ⟨c, n, k, _, _, hck, hjs, hn, h2, c1.trans c2, hfirst, hrel, .inl hd, rfl⟩
      · have hjl := isD_lt hd
        rw [hd] at h2
        simp only [if_true] at h2
        refine s_test ?_
        simp only [o_pure, o_nil, POp.ev, Opd.ev, gv, setD, Option.some.injEq, exists_eq_left', unV, if_true, Bool.not_true]
        refine Test.false_ (s_skip1 ?_)
        simp +decide only [p_seq_normal]
        have hdp := hd
        unfold isD at hdp
        simp at hdp
        have w1 : IntKind.u8.wrap ((ch s (i + c) : Int) - 48) = ((ch s (i + c) - 48 : Nat) : Int) := by
          rw [IntKind.wrap_u8]
          omega
        have w2 : IntKind.i64.wrap ((ch s (i + c) - 48 : Nat) : Int) = ((ch s (i + c) - 48 : Nat) : Int) := W_of_in (by unfold inR; omega)
        have w3 : IntKind.i64.wrap (10 * (n : Int)) = ((10 * n : Nat) : Int) := by
          rw [IntKind.wrap_i64]
          omega
        have w4 : IntKind.i64.wrap (((10 * n : Nat) : Int) + ((ch s (i + c) - 48 : Nat) : Int)) = ((10 * n + (ch s (i + c) - 48) : Nat) : Int) := by
          rw [IntKind.wrap_i64]
          omega
        refine s_reg ?_
        simp only [o_pure, o_nil, POp.ev, Opd.ev, gv, setD, List.set, Option.some.injEq, exists_eq_left', binV, convV, ne_eq, not_true_eq_false, if_false, w1, w2, w3, w4]
        refine s_reg1 ?_
        simp only [o_pure, o_nil, POp.ev, Opd.ev, gv, setD, List.set, Option.some.injEq, exists_eq_left', binV, ne_eq, not_true_eq_false, if_false, add1 (i := c) (by omega)]
        simp +decide only [p_seq_normal, p_block_normal]
        obtain ⟨k, rfl⟩ : ∃ k', k = k' + 1 := ⟨k - 1, by omega⟩
        refine Round.mk k (by omega) ⟨c + 1, 10 * n + (ch s (i + c) - 48), _, _, by omega, by omega, ?_, h2, c1.trans c2, fun _ => ?_, fun h0 => ?_, rfl⟩
        · rw [Nat.pow_succ]
          have : (n + 1) * 10 ≤ 10 ^ c * 10 := Nat.mul_le_mul_right _ hn
          omega
        · by_cases hc0 : c = 0
          · subst hc0; exact hd
          · exact hfirst (by omega)
        · rw [hrel h0, numF_step hd]
          rfl
    · have hc4 : ¬ c < 4 := by simp at hlt; omega
      refine s_exit1 ?_
      simp +decide only [p_seq_normal, p_seq_exit, p_block_exit, reduceIte]
      exact ⟨c, n, k, _, _, hck, hjs, hn, h1, c1, hfirst, hrel, .inr (by omega), rfl⟩
  · clear h
    rintro e' H2 ⟨c, n, k, x4, x5, hck, hjs, hn, h2, c2, hfirst, hrel, hend, rfl⟩
    have hn4 : 10 ^ c ≤ 10 ^ 4 := Nat.pow_le_pow_right (by omega) (by omega)
    obtain ⟨H3, e3, h3, c3⟩ := h2.s4 hq (decide ((c : Int) > 0))
    refine s_reg ?_
    simp only [o_pure, o_eff, o_guard, gk_tt, o_nil, POp.ev, Opd.ev, EOp.ev, gv, setD, Option.some.injEq, exists_eq_left', pickV, binV, load1V, nilchkV, fadV, ne_eq, not_true_eq_false, if_false, Nat.zero_add, h2.c4, e3]
    refine s_reg ?_
    simp only [o_pure, o_nil, POp.ev, Opd.ev, gv, setD, List.set, Option.some.injEq, exists_eq_left']
    refine s_ret1 ?_
    simp +decide only [p_fin_ret, resV, resOne, gv, Option.some.injEq, exists_eq_left']
    refine ⟨n, i + c, _, rfl, by omega, by omega, hjs, h3, c2.trans c3, ?_⟩
    by_cases hc0 : c = 0
    · subst hc0
      have hdf : isD (ch s i) = false := by
        rcases hend with h | h
        · exact h
        · omega
      have : pNum s i = none := by unfold pNum; rw [hdf]; rfl
      rw [this]
      exact .inl rfl
    · have hc1 : decide ((c : Int) > 0) = true := by simp; omega
      rw [hrel (hfirst (by omega)), hc1]
      cases hdd : isD (ch s (i + c)) with
      | false =>
        have : numF s k (i + c) n = some (n, i + c) := by
          cases k <;> (unfold numF; rw [hdd]; rfl)
        rw [this]
        exact ⟨rfl, rfl, rfl⟩
      | true =>
        have hk0 : k = 0 := by
          rcases hend with h | h
          · rw [hdd] at h; cases h
          · exact h
        subst hk0
        rw [numF, if_pos hdd]
        exact .inr rfl
end Go.Proofs.YtooaafekllkpbaaDoor

/- ShiftSystem: the walk of the implementation's side; no condition beyond stated lengths. -/
namespace Go.Proofs.YtooaafekllkpbaaDoor
open Go.Ab
set_option linter.unusedSimpArgs false
set_option linter.unusedVariables false

theorem aad_in {q n : Nat} {i : Nat} (h : i < n) : aadV n 1 (.pointer (some ⟨q, 0, none⟩)) (.int .i64 i) = some (.pointer (some ⟨q, i, none⟩)) := by
  simp [aadV, h]
theorem termOfG_ok (lim : Nat) (c x y z : Int) (H : AHeap) (hl : lim ≤ H.next) : ACalls Tryd.prog lim n_impl_termOf [.int .i64 c, .agg #[vi x, vi y, vi z]] H fun v H' => v = tv ⟨c, x, y, z⟩ ∧ Ext H H' := by
  refine is_impl_termOf.go rfl ?_
  unfold c_impl_termOf
  have hcv : cellsV (.agg #[vi x, vi y, vi z]) = some [vi x, vi y, vi z] := rfl
  refine s_reg ?_
  simp only [o_eff, o_nil, Opd.ev, EOp.ev, env0, gu, gv, setD, List.set, Option.map_some, Option.some.injEq, exists_eq_left', boxH, hcv]
  have hx1 := Ext.alloc H [vi x, vi y, vi z]
  have hp : (H.alloc [vi x, vi y, vi z]).blk H.next = some [vi x, vi y, vi z] := alloc_new _ _
  have hnp : (H.alloc [vi x, vi y, vi z]).next = H.next + 1 := rfl
  generalize H.alloc [vi x, vi y, vi z] = H1 at hx1 hp hnp ⊢
  have hx2 := Ext.alloc H1 [.int .i64 0, .int .i64 0, .int .i64 0, .int .i64 0]
  have hr : (H1.alloc [.int .i64 0, .int .i64 0, .int .i64 0, .int .i64 0]).blk H1.next = some [.int .i64 0, .int .i64 0, .int .i64 0, .int .i64 0] := alloc_new _ _
  rw [← hx2.blk _ (by omega)] at hp
  replace hx1 := hx1.trans hx2
  generalize H1.alloc [.int .i64 0, .int .i64 0, .int .i64 0, .int .i64 0] = H2 at hx1 hp hr ⊢
  generalize hre : H1.next = r at hr hnp ⊢
  generalize hpe : H.next = p at hp hnp hl ⊢
  have a0 : aadV 3 1 (.pointer (some ⟨p, 0, none⟩)) (.int .i64 0) = some (.pointer (some ⟨p, 0, none⟩)) := aad_in (i := 0) (by omega)
  have a1 : aadV 3 1 (.pointer (some ⟨p, 0, none⟩)) (.int .i64 1) = some (.pointer (some ⟨p, 1, none⟩)) := aad_in (i := 1) (by omega)
  have a2 : aadV 3 1 (.pointer (some ⟨p, 0, none⟩)) (.int .i64 2) = some (.pointer (some ⟨p, 2, none⟩)) := aad_in (i := 2) (by omega)
  have hst : storeH lim H2 4 (.pointer (some ⟨r, 0, none⟩)) (tv ⟨c, x, y, z⟩) = some (undef, H2.put r (tc ⟨c, x, y, z⟩)) := store4 (by omega) hr
  have hbv : ∀ l : List Value, l = tc ⟨c, x, y, z⟩ → Value.agg l.toArray = tv ⟨c, x, y, z⟩ := by rintro l rfl; rfl
  refine s_reg ?_
  simp only [o_pure, o_eff, o_nil, POp.ev, Opd.ev, EOp.ev, gv, setD, List.map, Option.map_some, Option.some.injEq, exists_eq_left', load1V, List.getElem?_cons_zero, List.getElem?_cons_succ, a0, a1, a2, cell_blk hp, bldT, hbv _ rfl, hst]
  refine s_ret1 ?_
  have hld : loadNV (H2.put r (tc ⟨c, x, y, z⟩)) 4 (.pointer (some ⟨r, 0, none⟩)) = some (tv ⟨c, x, y, z⟩) := load4 (put_same _ _ _)
  simp +decide only [p_fin_ret, resV, resOne, gv, Option.some.injEq, exists_eq_left', hld]
  exact ⟨trivial, Chg.ext hx1 (Chg.put _ _ _) (by omega)⟩

end Go.Proofs.YtooaafekllkpbaaDoor

/- The reader of expressions, implementation: values told, kept, reduced; sums and products; no condition beyond stated ranges. -/
namespace Go.Proofs.YtooaafekllkpbaaDoor
open Go.Ab
set_option linter.unusedSimpArgs false
set_option linter.unusedVariables false

def redV (ts : List Tm) (den : Int) : V := ⟨ts.map (divT (gcdL den ts)), den.tdiv (gcdL den ts)⟩
def toldB (v : V) : Bool := v.ts.all okC && decide (v.den ≤ 1000)
theorem mkV_red (ts : List Tm) (den : Int) : mkV ts den = if toldB (redV ts den) then some (redV ts den) else none := rfl
def IV (H : AHeap) (lo : Nat) (v : Value) (V : V) : Prop := ∃ sl, v = .agg #[.int .i64 V.den, sl] ∧ SlF H lo sl V.ts

theorem degreeG_ok (lim : Nat) (t : Tm) (H : AHeap) (h : exS t) : ACalls Tryd.prog lim n_impl_Term_degree [tv t] H fun v H' => v = .int .i64 (t.x + t.y + t.z) ∧ Ext H H' := by
  refine is_impl_Term_degree.go rfl ?_
  unfold c_impl_Term_degree
  unfold exS at h
  refine s_reg ?_
  simp only [o_pure, o_eff, o_nil, POp.ev, Opd.ev, EOp.ev, env0, gu, gv, setD, List.set, Option.some.injEq, exists_eq_left', boxT]
  have hB := BoxT.mk' H t
  generalize H.alloc (tc t) = H1 at hB ⊢
  generalize H.next = p at hB ⊢
  have hx := hB.ext
  have w1 : IntKind.i64.wrap (t.x + t.y) = t.x + t.y := by rw [IntKind.wrap_i64]; omega
  have w2 : IntKind.i64.wrap (t.x + t.y + t.z) = t.x + t.y + t.z := by rw [IntKind.wrap_i64]; omega
  refine s_reg ?_
  simp only [o_pure, o_nil, POp.ev, Opd.ev, gv, setD, List.set, Option.some.injEq, exists_eq_left', binV, load1V, fadV, ne_eq, not_true_eq_false, if_false, Nat.zero_add, hB.c1, hB.c2, hB.c3, w1, w2]
  refine s_ret1 ?_
  simp +decide only [p_fin_ret, resV, resOne, gv, Option.some.injEq, exists_eq_left']
  exact ⟨trivial, hx⟩

theorem told_ok (lim : Nat) (sl : Value) (X : V) (H : AHeap) (hl : lim ≤ H.next) (hs : SlT H sl X.ts) (hn : X.ts.length ≤ 100000) (hx : ∀ t ∈ X.ts, exS t) :
    ACalls Tryd.prog lim n_impl_value_told [.agg #[.int .i64 X.den, sl]] H fun v H' => v = .bool (toldB X) ∧ Ext H H' := by
  refine is_impl_value_told.go rfl ?_
  unfold c_impl_value_told
  refine s_reg ?_
  simp only [o_pure, o_eff, o_nil, POp.ev, Opd.ev, EOp.ev, env0, gu, gv, setD, List.set, Option.some.injEq, exists_eq_left', box2]
  have L1 := Own.mk' (Ext.refl H) [.int .i64 X.den, sl]
  generalize H.alloc [.int .i64 X.den, sl] = H1 at L1 ⊢
  generalize H.next = p1 at L1
  refine s_assoc (s_reg ?_)
  simp only [o_pure, o_nil, POp.ev, Opd.ev, gv, setD, List.set, Option.some.injEq, exists_eq_left', load1V, fadV, Nat.zero_add, L1.c1, hs.lenV]
  refine s_block ?_
  refine s_loop1 (fun k e' H' => ∃ (i : Nat) (x3 : Value), i + k = X.ts.length ∧ (∀ t ∈ X.ts.take i, okC t = true) ∧ Own H H' p1 [.int .i64 X.den, sl] ∧ e' = [.agg #[.int .i64 X.den, sl], pt p1, .bool false, x3, sl, .int .i64 X.ts.length, .int .i64 i]) X.ts.length ⟨0, _, by omega, by simp, L1, rfl⟩ ?_
  clear L1 H1
  rintro k e' H1 ⟨i, x3, hik, hok, L1, rfl⟩
  have hn1 := L1.ext.next
  refine s_test ?_
  simp only [o_pure, o_nil, POp.ev, Opd.ev, gv, setD, Option.some.injEq, exists_eq_left', binV, ne_eq, not_true_eq_false, if_false]
  refine Test.split (fun hlt => ?_) (fun hlt => ?_)
  · have hlt' : i < X.ts.length := by simpa using hlt
    obtain ⟨b1, o1, h1, hat⟩ := (hs.ext L1.ext).at hlt'
    have hmem := List.getElem_mem hlt'
    refine s_skip1 ?_
    simp +decide only [p_seq_normal]
    refine s_block ?_
    refine s_reg ?_
    simp only [o_pure, o_eff, o_nil, POp.ev, Opd.ev, EOp.ev, gv, setD, List.set, Option.some.injEq, exists_eq_left', h1, hat.all, store4_new (lim := lim) (H := H1) (by omega)]
    have hB := BoxT.mk' H1 X.ts[i]
    generalize H1.alloc (tc X.ts[i]) = H2 at hB ⊢
    generalize H1.next = q at hB
    refine s_test1_I (!okC X.ts[i]) (fun H' => Ext H2 H') ?_ (fun H3 hx3 hbad => ?_) (fun H3 hx3 hgood => ?_)
    · simp only [o_pure, o_callF, POp.ev, Opd.ev, gv, setD, List.map, Option.some.injEq, exists_eq_left', load1V, fadV, Nat.zero_add, hB.c0]
      refine (inside_ok _ _ _ _ _).eq ?_
      unfold okC
      cases hin : (decide (-1000000 ≤ X.ts[i].c) && decide (X.ts[i].c ≤ 1000000))
      · simp only [o_cont, o_pure, o_guard, gk_tf, o_nil, POp.ev, Opd.ev, gv, setD, Option.some.injEq, exists_eq_left', pickV, unV, Bool.not_false]
        simp [Ext.refl]
      · simp only [o_cont, o_pure, o_callF, o_guard, gk_ff, POp.ev, Opd.ev, gv, setD, List.map, Option.some.injEq, exists_eq_left', unV, Bool.not_true, hB.all]
        refine (degreeG_ok _ _ _ (hx _ hmem)).mono ?_
        rintro _ H3 ⟨rfl, hx3⟩
        simp only [o_cont, o_pure, o_guard, gk_ff, o_nil, POp.ev, Opd.ev, gv, setD, Option.some.injEq, exists_eq_left', pickV, binV, ne_eq, not_true_eq_false, if_false]
        simp [hx3]
    · refine s_reg ?_
      simp only [o_pure, o_nil, POp.ev, Opd.ev, setD, List.set, Option.some.injEq, exists_eq_left']
      refine s_ret1 ?_
      simp +decide only [p_seq_ret, p_block_ret, p_fin_ret, resV, resOne, gv, Option.some.injEq, exists_eq_left']
      refine ⟨?_, (L1.ext.trans hB.ext).trans hx3⟩
      have : X.ts.all okC = false := by
        rw [List.all_eq_false]
        exact ⟨_, hmem, by simpa using hbad⟩
      unfold toldB
      rw [this]
      rfl
    · refine s_skip1 ?_
      simp +decide only [p_seq_normal, p_block_normal]
      refine s_reg1 ?_
      simp only [o_pure, o_nil, POp.ev, Opd.ev, gv, setD, List.set, Option.some.injEq, exists_eq_left', binV, ne_eq, not_true_eq_false, if_false, add1 (i := i) (by omega)]
      simp +decide only [p_seq_normal]
      refine Round.mk (k - 1) (by omega) ⟨i + 1, _, by omega, ?_, (L1.step hB.ext).step hx3, rfl⟩
      intro t ht
      rw [List.take_succ_eq_append_getElem hlt'] at ht
      rcases List.mem_append.1 ht with ht | ht
      · exact hok t ht
      · rw [List.mem_singleton.1 ht]; simpa using hgood
  · have hge : i = X.ts.length := by simp at hlt; omega
    subst hge
    rw [List.take_length] at hok
    have hall : X.ts.all okC = true := List.all_eq_true.2 hok
    refine s_exit1 ?_
    simp +decide only [p_seq_normal, p_seq_exit, p_block_exit, reduceIte]
    refine s_reg ?_
    simp only [o_pure, o_nil, POp.ev, Opd.ev, gv, setD, List.set, Option.some.injEq, exists_eq_left', binV, load1V, fadV, ne_eq, not_true_eq_false, if_false, Nat.zero_add, L1.c0]
    refine s_ret1 ?_
    simp +decide only [p_fin_ret, resV, resOne, gv, Option.some.injEq, exists_eq_left']
    unfold toldB
    rw [hall]
    exact ⟨by simp, L1.ext⟩

theorem iKeep_ok (lim q : Nat) (s : ByteArray) (i d m : Int) (f t : Bool) (sl : Value) (X : V) (H : AHeap) (hq : lim ≤ q) (hqn : q < H.next) (hl : lim ≤ H.next) (h : IRd H q s i d m f t) (hs : SlT H sl X.ts) (hn : X.ts.length ≤ 100000) (hx : ∀ t ∈ X.ts, exS t) :
    ACalls Tryd.prog lim n_impl_reader_keep [pt q, .agg #[.int .i64 X.den, sl]] H fun v H' => v = .agg #[.int .i64 (if t && toldB X then X.den else 1), if t && toldB X then sl else .slice none 0 0] ∧ IRd H' q s i d m f (t && toldB X) ∧ Chg q H H' := by
  refine is_impl_reader_keep.go rfl ?_
  unfold c_impl_reader_keep
  refine s_reg ?_
  simp only [o_eff, o_nil, Opd.ev, EOp.ev, env0, gu, gv, setD, List.set, Option.some.injEq, exists_eq_left', box2]
  have L2 := Loc.mk' (Chg.refl q H) [.int .i64 X.den, sl]
  have hx1 := Ext.alloc H [.int .i64 X.den, sl]
  generalize H.alloc [.int .i64 X.den, sl] = H1 at L2 hx1 ⊢
  have L3 := Loc.mk' L2.chg [.int .i64 0, .slice none 0 0]
  have hne : H.next ≠ H1.next := by have := L2.lt; omega
  have hx2 := Ext.alloc H1 [.int .i64 0, .slice none 0 0]
  replace L2 := L2.ext hx2
  generalize H1.alloc [.int .i64 0, .slice none 0 0] = H2 at L2 L3 hx2 ⊢
  have hnx2 := hx2.next
  generalize H1.next = p3 at L3 hne hnx2 ⊢
  have hnx1 := hx1.next
  have hx12 := hx1.trans hx2
  have h2 := h.ext hx12 hqn
  have hnn := hx12.next
  generalize hp2 : H.next = p2 at L2 hne
  have hq2 := L2.lt
  have hq3 := L3.lt
  have hg3 := L3.ge
  -- told
  refine s_reg_cut (fun e' H' => ∃ G : AHeap, Ext H2 G ∧ IRd H' q s i d m f (t && toldB X) ∧ Chg q G H' ∧ e' = [pt q, .agg #[.int .i64 X.den, sl], pt p2, pt p3]) ?_ ?_
  · cases ht : t
    · subst ht
      obtain ⟨H4, e4, h4, c4⟩ := h2.s5 hq false
      simp only [o_pure, o_eff, o_guard, gk_ft, o_nil, POp.ev, Opd.ev, EOp.ev, gv, setD, Option.some.injEq, exists_eq_left', pickV, load1V, nilchkV, fadV, Nat.zero_add, h2.c5, e4]
      exact ⟨H2, Ext.refl _, by simpa using h4, c4, trivial⟩
    · subst ht
      simp only [o_pure, o_callF, o_guard, gk_tt, POp.ev, Opd.ev, gv, setD, List.map, Option.some.injEq, exists_eq_left', load1V, nilchkV, fadV, Nat.zero_add, h2.c5, L2.load2]
      refine (told_ok lim sl X H2 (by omega) (hs.ext hx12) hn hx).mono ?_
      rintro _ H3 ⟨rfl, hx3⟩
      have h3 := h2.ext hx3 (by omega)
      obtain ⟨H4, e4, h4, c4⟩ := h3.s5 hq (toldB X)
      simp only [o_cont, o_pure, o_eff, o_nil, POp.ev, Opd.ev, EOp.ev, gv, setD, Option.some.injEq, exists_eq_left', pickV, nilchkV, fadV, Nat.zero_add, e4]
      exact ⟨H3, hx3, by simpa using h4, c4, trivial⟩
  · rintro e' H4 ⟨G, hxG, h4, c4, rfl⟩
    have L24 := (L2.ext hxG).step c4 hqn
    have L34 := (L3.ext hxG).step c4 hqn
    have hn4 := c4.next
    have hnG := hxG.next
    refine s_test ?_
    simp only [o_pure, o_nil, POp.ev, Opd.ev, gv, setD, Option.some.injEq, exists_eq_left', load1V, nilchkV, unV, fadV, Nat.zero_add, h4.c5]
    cases hb : (t && toldB X)
    · refine Test.true_ ?_
      have hf : fillV [.int .i64 0, .slice none 0 0] [(0, 1, .int .i64 1)] = some [.int .i64 1, .slice none 0 0] := rfl
      obtain ⟨H5, e5, L5, c5, n5⟩ := L34.put2 hl (.int .i64 1) (.slice none 0 0)
      refine s_reg ?_
      simp only [o_pure, o_eff, o_nil, POp.ev, Opd.ev, EOp.ev, gv, setD, List.map, Option.map_some, Option.some.injEq, exists_eq_left', if_false, Bool.false_eq_true, hf, e5]
      refine s_ret1 ?_
      simp +decide only [p_seq_ret, p_fin_ret, resV, resOne, gv, Option.some.injEq, exists_eq_left', L5.load2]
      rw [hb] at h4
      exact ⟨trivial, h4.over c5 (by omega) (by omega), L5.chg⟩
    · refine Test.false_ (s_skip1 ?_)
      simp +decide only [p_seq_normal, reduceIte]
      obtain ⟨H5, e5, L5, c5, n5⟩ := L34.put2 hl (.int .i64 X.den) sl
      refine s_reg ?_
      simp only [o_pure, o_eff, o_nil, POp.ev, Opd.ev, EOp.ev, gv, setD, Option.some.injEq, exists_eq_left', L24.load2, e5]
      refine s_ret1 ?_
      simp +decide only [p_fin_ret, resV, resOne, gv, Option.some.injEq, exists_eq_left', L5.load2]
      rw [hb] at h4
      exact ⟨trivial, h4.over c5 (by omega) (by omega), L5.chg⟩

theorem reduced_ok (lim : Nat) (sl : Value) (ts : List Tm) (den : Int) (H : AHeap) (hl : lim ≤ H.next) (hs : SlT H sl ts) (hn : ts.length ≤ 10000) (hd : 0 < den ∧ den ≤ 1000000000) (hc : ∀ t ∈ ts, -1000000000000000000 ≤ t.c ∧ t.c ≤ 1000000000000000000) :
    ACalls Tryd.prog lim n_impl_reduced [.int .i64 den, sl] H fun v H' => IV H' H.next v (redV ts den) ∧ Ext H H' := by
  refine is_impl_reduced.go rfl ?_
  unfold c_impl_reduced
  refine s_reg ?_
  simp only [o_eff, o_nil, EOp.ev, env0, gu, setD, List.set, Option.some.injEq, exists_eq_left']
  have L2 := Own.mk' (Ext.refl H) [.int .i64 0, .slice none 0 0]
  generalize H.alloc [.int .i64 0, .slice none 0 0] = H1 at L2 ⊢
  generalize hp2 : H.next = p2 at L2
  refine s_reg ?_
  simp only [o_pure, o_nil, POp.ev, Opd.ev, gv, setD, List.set, Option.some.injEq, exists_eq_left']
  refine s_assoc (s_reg ?_)
  simp only [o_pure, o_nil, POp.ev, Opd.ev, gv, setD, List.set, Option.some.injEq, exists_eq_left', hs.lenV]
  refine s_block ?_
  refine s_loop1 (fun k e' H' => ∃ (i : Nat) (g : Int) (x4 x5 x6 y10 y11 y12 : Value), i + k = ts.length ∧ gcdL den ts = gcdL g (ts.drop i) ∧ 0 < g ∧ g ≤ den ∧ Own H H' p2 [.int .i64 0, .slice none 0 0] ∧
    e' = [.int .i64 den, sl, pt p2, .int .i64 g, x4, x5, x6, sl, .int .i64 ts.length, .int .i64 i, y10, y11, y12]) ts.length ⟨0, den, _, _, _, _, _, _, by omega, rfl, hd.1, Int.le_refl _, L2, rfl⟩ ?_
  clear L2 H1
  rintro k e' H1 ⟨i, g, x4, x5, x6, y10, y11, y12, hik, hall, hgp, hgd, L2, rfl⟩
  have hn1 := L2.ext.next
  refine s_test ?_
  simp only [o_pure, o_nil, POp.ev, Opd.ev, gv, setD, Option.some.injEq, exists_eq_left', binV, ne_eq, not_true_eq_false, if_false]
  refine Test.split (fun hlt => ?_) (fun hlt => ?_)
  · have hlt' : i < ts.length := by simpa using hlt
    obtain ⟨b1, o1, h1, hat⟩ := (hs.ext L2.ext).at hlt'
    have hci := hc _ (List.getElem_mem hlt')
    rw [List.drop_eq_getElem_cons hlt', gcdL_cons] at hall
    refine s_skip1 ?_
    simp +decide only [p_seq_normal]
    refine s_block ?_
    refine s_reg ?_
    simp only [o_pure, o_eff, o_nil, POp.ev, Opd.ev, EOp.ev, gv, setD, List.set, Option.some.injEq, exists_eq_left', h1, hat.all, store4_new (lim := lim) (H := H1) (by omega)]
    have hB := BoxT.mk' H1 ts[i]
    generalize H1.alloc (tc ts[i]) = H2 at hB ⊢
    generalize H1.next = q at hB
    refine s_reg1 ?_
    simp only [o_pure, o_callF, POp.ev, Opd.ev, gv, setD, List.map, Option.some.injEq, exists_eq_left', load1V, fadV, Nat.zero_add, hB.c0]
    refine (gcd_ok _ _ _ _ (by omega) (by omega)).eq ?_
    simp only [o_cont, o_pure, o_nil, POp.ev, Opd.ev, gv, setD, List.set, Option.some.injEq, exists_eq_left']
    simp +decide only [p_seq_normal, p_block_normal]
    refine s_reg1 ?_
    simp only [o_pure, o_nil, POp.ev, Opd.ev, gv, setD, List.set, Option.some.injEq, exists_eq_left', binV, ne_eq, not_true_eq_false, if_false, add1 (i := i) (by omega)]
    simp +decide only [p_seq_normal]
    have hgz : 0 < (Int.gcd g ts[i].c : Int) := by
      have : Int.gcd g ts[i].c ≠ 0 := by
        intro h0
        have := (Int.gcd_eq_zero_iff.1 h0).1
        omega
      omega
    have hgl : (Int.gcd g ts[i].c : Int) ≤ g := Int.le_of_dvd hgp (Int.gcd_dvd_left ..)
    exact Round.mk (k - 1) (by omega) ⟨i + 1, _, _, _, _, _, _, _, by omega, hall, hgz, by omega, L2.step hB.ext, rfl⟩
  · have hge : i = ts.length := by simp at hlt; omega
    subst hge
    rw [List.drop_length] at hall
    have hG : gcdL den ts = g := hall
    clear hall
    have hgz : (g = 0) = False := by simp; omega
    refine s_exit1 ?_
    simp +decide only [p_seq_normal, p_seq_exit, p_block_exit, reduceIte]
    refine s_reg ?_
    simp only [o_pure, o_nil, POp.ev, Opd.ev, setD, List.set, Option.some.injEq, exists_eq_left']
    refine s_assoc (s_reg ?_)
    simp only [o_pure, o_nil, POp.ev, Opd.ev, gv, setD, List.set, Option.some.injEq, exists_eq_left', hs.lenV]
    have hlt2 := L2.lt
    refine s_block ?_
    refine s_loop1 (fun k e' H' => ∃ (i b : Nat) (so x4 x6 y7 y8 y9 : Value), i + k = ts.length ∧ Own H H' p2 [.int .i64 0, .slice none 0 0] ∧ VecT H' b so ((ts.take i).map (divT g)) ∧ H.next ≤ b ∧ b ≠ p2 ∧
      e' = [.int .i64 den, sl, pt p2, .int .i64 g, x4, so, x6, y7, y8, y9, sl, .int .i64 ts.length, .int .i64 i]) ts.length ⟨0, p2 + H.next + 1, _, _, _, _, _, _, by omega, L2, vecT_nil _ _, by omega, by omega, rfl⟩ ?_
    clear L2 hn1 hlt2 H1
    rintro k e' H1 ⟨i, b, so, x4, x6, y7, y8, y9, hik, L2, hv, hb, hb2, rfl⟩
    have hn1 := L2.ext.next
    refine s_test ?_
    simp only [o_pure, o_nil, POp.ev, Opd.ev, gv, setD, Option.some.injEq, exists_eq_left', binV, ne_eq, not_true_eq_false, if_false]
    refine Test.split (fun hlt => ?_) (fun hlt => ?_)
    · have hlt' : i < ts.length := by simpa using hlt
      obtain ⟨b1, o1, h1, hat⟩ := (hs.ext L2.ext).at hlt'
      have hci := hc _ (List.getElem_mem hlt')
      have htr := tdiv_in (g := g) hci
      have hwc : IntKind.i64.wrap (ts[i].c.tdiv g) = ts[i].c.tdiv g := W_of_in (by unfold inR; omega)
      refine s_skip1 ?_
      simp +decide only [p_seq_normal]
      refine s_block ?_
      refine s_reg ?_
      simp only [o_pure, o_eff, o_nil, POp.ev, Opd.ev, EOp.ev, gv, setD, List.set, Option.some.injEq, exists_eq_left', h1, hat.all, store4_new (lim := lim) (H := H1) (by omega)]
      have hB := BoxT.mk' H1 ts[i]
      generalize H1.alloc (tc ts[i]) = H2 at hB ⊢
      generalize H1.next = q at hB
      obtain ⟨cs4, t4, hB4⟩ := hB.put0 (lim := lim) (by have := hB.ge; have := L2.ext.next; have := hB.ext.next; omega) (ts[i].c.tdiv g)
      refine s_reg ?_
      simp only [o_pure, o_eff, o_nil, POp.ev, Opd.ev, EOp.ev, gv, setD, Option.some.injEq, exists_eq_left', binV, load1V, fadV, ne_eq, not_true_eq_false, if_false, Nat.zero_add, hB.c0, hgz, hwc, t4]
      generalize H2.put q cs4 = H4 at hB4 ⊢
      clear t4 hB cs4 H2
      have hall4 : loadNV H4 4 (.pointer (some ⟨q, 0, none⟩)) = some (tv (divT g ts[i])) := hB4.all
      have hbs : ∀ t : Tm, bsliceH H4 1 [.int .i64 0, .int .i64 0, .int .i64 0, .int .i64 0] [(0, 4, tv t)] = some (.slice (some ⟨H4.next, 0, some 0⟩) 1 1, H4.alloc (tc t)) := fun t => rfl
      replace L2 := L2.step hB4.ext
      replace hv := VecT.ext hv hB4.ext
      have hlt4 := L2.lt
      have hn4 := L2.ext.next
      obtain ⟨v', H6, b', e6, hv6, hb6', hlt6, c6⟩ := pushT (lim := lim) hv (divT g ts[i]) (by omega) (by simp; omega)
      refine s_reg1 ?_
      simp only [o_pure, o_eff, o_nil, POp.ev, Opd.ev, EOp.ev, gv, setD, List.set, List.map, Option.some.injEq, exists_eq_left', hall4, hbs, e6]
      simp +decide only [p_seq_normal, p_block_normal]
      refine s_reg1 ?_
      simp only [o_pure, o_nil, POp.ev, Opd.ev, gv, setD, List.set, Option.some.injEq, exists_eq_left', binV, ne_eq, not_true_eq_false, if_false, add1 (i := i) (by omega)]
      simp +decide only [p_seq_normal]
      refine Round.mk (k - 1) (by omega) ⟨i + 1, b', _, _, _, _, _, _, by omega, L2.other c6 (Ne.symm hb2) hb, ?_, ?_, ?_, rfl⟩
      · rw [List.take_succ_eq_append_getElem hlt', List.map_append]
        exact hv6
      · rcases hb6' with h | h <;> omega
      · rcases hb6' with h | h <;> omega
    · have hge : i = ts.length := by simp at hlt; omega
      subst hge
      rw [List.take_length] at hv
      refine s_exit1 ?_
      simp +decide only [p_seq_normal, p_seq_exit, p_block_exit, reduceIte]
      have hdr := tdiv_in (c := den) (g := g) (by omega)
      have hwd : IntKind.i64.wrap (den.tdiv g) = den.tdiv g := W_of_in (by unfold inR; omega)
      have hf : fillV [.int .i64 0, .slice none 0 0] [(0, 1, .int .i64 (den.tdiv g)), (1, 1, so)] = some [.int .i64 (den.tdiv g), so] := fill2 rfl (VecT.cell hv)
      obtain ⟨H5, e5, L5, c5, n5⟩ := L2.put2 hl (.int .i64 (den.tdiv g)) so
      refine s_reg ?_
      simp only [o_pure, o_eff, o_nil, POp.ev, Opd.ev, EOp.ev, gv, setD, List.map, Option.map_some, Option.some.injEq, exists_eq_left', binV, ne_eq, not_true_eq_false, if_false, hgz, hwd, hf, e5]
      refine s_ret1 ?_
      simp +decide only [p_fin_ret, resV, resOne, gv, Option.some.injEq, exists_eq_left', L5.load2]
      unfold redV
      rw [hG]
      exact ⟨⟨so, rfl, SlF.of (VecT.chg hv c5 hb2) (by omega)⟩, L5.ext⟩
end Go.Proofs.YtooaafekllkpbaaDoor

/- The reader of expressions, implementation: sums and products of values; no condition beyond stated ranges. -/
namespace Go.Proofs.YtooaafekllkpbaaDoor
open Go.Ab
set_option linter.unusedSimpArgs false
set_option linter.unusedVariables false

def addM (A B : V) (n : Int) : List Tm := A.ts.map (scl B.den) ++ B.ts.map (scl (n * A.den))
theorem addM_mem {a b : V} {n : Int} {t : Tm} (h : t ∈ addM a b n) : (∃ u ∈ a.ts, t = scl b.den u) ∨ ∃ u ∈ b.ts, t = scl (n * a.den) u := by
  rcases List.mem_append.1 h with h | h
  · obtain ⟨u, hu, rfl⟩ := List.mem_map.1 h; exact .inl ⟨u, hu, rfl⟩
  · obtain ⟨u, hu, rfl⟩ := List.mem_map.1 h; exact .inr ⟨u, hu, rfl⟩
theorem addM_bnd {a b : V} (ha : Good a) (hb : Good b) {n : Int} (hn : n = 1 ∨ n = -1) : ∀ t ∈ addM a b n, (-1000000000 ≤ t.c ∧ t.c ≤ 1000000000) ∧ E 4 t := by
  have hA := ha.den
  have hB := hb.den
  intro t ht
  rcases addM_mem ht with ⟨u, hu, rfl⟩ | ⟨u, hu, rfl⟩
  · exact ⟨mul_bnd (ha.ok u hu).1 (by omega), ha.E u hu⟩
  · refine ⟨mul_bnd (hb.ok u hu).1 ?_, hb.E u hu⟩
    rcases hn with rfl | rfl <;> omega
theorem addM_length {a b : V} (ha : Good a) (hb : Good b) (n : Int) : (addM a b n).length ≤ 170 := by
  have h1 := ha.len
  have h2 := hb.len
  unfold addM
  simp
  omega

theorem plus_ok (lim : Nat) (sa sb : Value) (A B : V) (n : Int) (H : AHeap) (hl : lim ≤ H.next) (hsa : SlT H sa A.ts) (hsb : SlT H sb B.ts) (hA : Good A) (hB : Good B) (hn : n = 1 ∨ n = -1) :
    ACalls Tryd.prog lim n_impl_value_plus [.agg #[.int .i64 A.den, sa], .agg #[.int .i64 B.den, sb], .int .i64 n] H fun v H' => IV H' H.next v (redV (coll (addM A B n)) (A.den * B.den)) ∧ Ext H H' := by
  refine is_impl_value_plus.go rfl ?_
  unfold c_impl_value_plus
  have hbnd := addM_bnd hA hB hn
  have hlen := addM_length hA hB n
  obtain ⟨hcoll, hbn⟩ := put_bn (fun t ht => (hbnd t ht).1) (fun t ht => (hbnd t ht).2) (by omega) (by omega) (by omega)
  have hAd := hA.den
  have hBd := hB.den
  have hAl := hA.len
  have hBl := hB.len
  refine s_reg ?_
  simp only [o_eff, o_nil, Opd.ev, EOp.ev, env0, gu, gv, setD, List.set, Option.some.injEq, exists_eq_left', box2]
  have L3 := Own.mk' (Ext.refl H) [.int .i64 A.den, sa]
  generalize H.alloc [.int .i64 A.den, sa] = H1 at L3 ⊢
  have hq3 := L3.lt
  have L4 := Own.mk' L3.ext [.int .i64 B.den, sb]
  replace L3 := L3.step (Ext.alloc H1 [.int .i64 B.den, sb])
  generalize H1.alloc [.int .i64 B.den, sb] = H2 at L3 L4 ⊢
  have hq4 := L4.lt
  have L5 := Own.mk' L4.ext [.int .i64 0, .slice none 0 0]
  replace L3 := L3.step (Ext.alloc H2 [.int .i64 0, .slice none 0 0])
  replace L4 := L4.step (Ext.alloc H2 [.int .i64 0, .slice none 0 0])
  generalize H2.alloc [.int .i64 0, .slice none 0 0] = H3 at L3 L4 L5 ⊢
  generalize hp3 : H.next = p3 at L3 hq3
  generalize H1.next = p4 at L4 hq3 hq4
  generalize H2.next = p5 at L5 hq4
  refine s_reg ?_
  simp only [o_pure, o_nil, POp.ev, Opd.ev, setD, List.set, Option.some.injEq, exists_eq_left']
  refine s_assoc (s_reg ?_)
  simp only [o_pure, o_nil, POp.ev, Opd.ev, gv, setD, List.set, Option.some.injEq, exists_eq_left', load1V, fadV, Nat.zero_add, L3.c1, hsa.lenV]
  have hx0 := L5.lt
  refine s_block ?_
  refine s_loop1 (fun k e' H' => ∃ (i b : Nat) (so x7 x8 x12 x13 x14 : Value), i + k = A.ts.length ∧ VecT H' b so ((A.ts.take i).map (scl B.den)) ∧ H.next ≤ b ∧ b ≠ p3 ∧ b ≠ p4 ∧ b ≠ p5 ∧ Own H H' p3 [.int .i64 A.den, sa] ∧ Own H H' p4 [.int .i64 B.den, sb] ∧ Own H H' p5 [.int .i64 0, .slice none 0 0] ∧
    e' = [.agg #[.int .i64 A.den, sa], .agg #[.int .i64 B.den, sb], .int .i64 n, pt p3, pt p4, pt p5, so, x7, x8, sa, .int .i64 A.ts.length, .int .i64 i, x12, x13, x14]) A.ts.length ⟨0, H.next + p3 + p4 + p5 + 1, _, _, _, _, _, _, by omega, vecT_nil _ _, by omega, by omega, by omega, by omega, L3, L4, L5, rfl⟩ ?_
  clear L3 L4 L5 hx0 H1 H2 H3
  rintro k e' H3 ⟨i, b, so, x7, x8, x12, x13, x14, hik, hv, hb0, hb3, hb4, hb5, L3, L4, L5, rfl⟩
  have hnx3 := L3.ext.next
  refine s_test ?_
  simp only [o_pure, o_nil, POp.ev, Opd.ev, gv, setD, Option.some.injEq, exists_eq_left', binV, ne_eq, not_true_eq_false, if_false]
  refine Test.split (fun hlt => ?_) (fun hlt => ?_)
  · have hlt' : i < A.ts.length := by simpa using hlt
    obtain ⟨b1, o1, h1, hat⟩ := (hsa.ext L3.ext).at hlt'
    have hmem := List.getElem_mem hlt'
    have hcb := (hbnd (scl B.den A.ts[i]) (List.mem_append.2 (.inl (List.mem_map_of_mem hmem)))).1
    have hwc : IntKind.i64.wrap (A.ts[i].c * B.den) = (scl B.den A.ts[i]).c := W_of_in (a := (scl B.den A.ts[i]).c) (by unfold inR; omega)
    refine s_skip1 ?_
    simp +decide only [p_seq_normal]
    refine s_block ?_
    refine s_reg ?_
    simp only [o_pure, o_eff, o_nil, POp.ev, Opd.ev, EOp.ev, gv, setD, List.set, Option.some.injEq, exists_eq_left', h1, hat.all, store4_new (lim := lim) (H := H3) (by omega)]
    have hBx := BoxT.mk' H3 A.ts[i]
    generalize H3.alloc (tc A.ts[i]) = H4 at hBx ⊢
    generalize hq : H3.next = q at hBx
    obtain ⟨cs4, t4, hB4⟩ := hBx.put0 (lim := lim) (by omega) (scl B.den A.ts[i]).c
    have L44 := L4.step hBx.ext
    refine s_reg ?_
    simp only [o_pure, o_eff, o_nil, POp.ev, Opd.ev, EOp.ev, gv, setD, Option.some.injEq, exists_eq_left', binV, load1V, fadV, ne_eq, not_true_eq_false, if_false, Nat.zero_add, hBx.c0, L44.c0, hwc, t4]
    generalize H4.put q cs4 = H5 at hB4 ⊢
    clear t4 hBx cs4 L44 H4
    have hall : loadNV H5 4 (.pointer (some ⟨q, 0, none⟩)) = some (tv (scl B.den A.ts[i])) := hB4.all
    have hbs : ∀ t : Tm, bsliceH H5 1 [.int .i64 0, .int .i64 0, .int .i64 0, .int .i64 0] [(0, 4, tv t)] = some (.slice (some ⟨H5.next, 0, some 0⟩) 1 1, H5.alloc (tc t)) := fun t => rfl
    have hx5 := hB4.ext
    have hnx5 := hx5.next
    have hl3 := L3.lt
    have hl4 := L4.lt
    have hl5 := L5.lt
    obtain ⟨v', H6, b', e6, hv6, hb6', hlt6, c6⟩ := pushT (lim := lim) (VecT.ext hv hx5) (scl B.den A.ts[i]) (by omega) (by rw [List.length_map, List.length_take]; omega)
    refine s_reg1 ?_
    simp only [o_pure, o_eff, o_nil, POp.ev, Opd.ev, EOp.ev, gv, setD, List.set, List.map, Option.some.injEq, exists_eq_left', hall, hbs, e6]
    simp +decide only [p_seq_normal, p_block_normal]
    refine s_reg1 ?_
    simp only [o_pure, o_nil, POp.ev, Opd.ev, gv, setD, List.set, Option.some.injEq, exists_eq_left', binV, ne_eq, not_true_eq_false, if_false, add1 (i := i) (by omega)]
    simp +decide only [p_seq_normal]
    refine Round.mk (k - 1) (by omega) ⟨i + 1, b', _, _, _, _, _, _, by omega, ?_, by rcases hb6' with h | h <;> omega, by rcases hb6' with h | h <;> omega, by rcases hb6' with h | h <;> omega, by rcases hb6' with h | h <;> omega, (L3.step hx5).other c6 (Ne.symm hb3) hb0, (L4.step hx5).other c6 (Ne.symm hb4) hb0, (L5.step hx5).other c6 (Ne.symm hb5) hb0, rfl⟩
    rw [List.take_succ_eq_append_getElem hlt', List.map_append]
    exact hv6
  · have hge : i = A.ts.length := by simp at hlt; omega
    subst hge
    rw [List.take_length] at hv
    refine s_exit1 ?_
    simp +decide only [p_seq_normal, p_seq_exit, p_block_exit, reduceIte]
    refine s_assoc (s_reg ?_)
    simp only [o_pure, o_nil, POp.ev, Opd.ev, gv, setD, List.set, Option.some.injEq, exists_eq_left', load1V, fadV, Nat.zero_add, L4.c1, hsb.lenV]
    have w3 : IntKind.i64.wrap (n * A.den) = n * A.den := W_of_in (by unfold inR; rcases hn with rfl | rfl <;> omega)
    refine s_block ?_
    refine s_loop1 (fun k e' H' => ∃ (i b : Nat) (so x7 x8 : Value), i + k = B.ts.length ∧ VecT H' b so (A.ts.map (scl B.den) ++ (B.ts.take i).map (scl (n * A.den))) ∧ H.next ≤ b ∧ b ≠ p3 ∧ b ≠ p4 ∧ b ≠ p5 ∧ Own H H' p3 [.int .i64 A.den, sa] ∧ Own H H' p4 [.int .i64 B.den, sb] ∧ Own H H' p5 [.int .i64 0, .slice none 0 0] ∧
      e' = [.agg #[.int .i64 A.den, sa], .agg #[.int .i64 B.den, sb], .int .i64 n, pt p3, pt p4, pt p5, so, x7, x8, sa, .int .i64 A.ts.length, .int .i64 A.ts.length, sb, .int .i64 B.ts.length, .int .i64 i]) B.ts.length ⟨0, b, _, _, _, by omega, by simpa using hv, hb0, hb3, hb4, hb5, L3, L4, L5, rfl⟩ ?_
    clear L3 L4 L5 hv hnx3 hb0 hb3 hb4 hb5 H3
    rintro k e' H3 ⟨i, b, so, x7, x8, hik, hv, hb0, hb3, hb4, hb5, L3, L4, L5, rfl⟩
    have hnx3 := L3.ext.next
    refine s_test ?_
    simp only [o_pure, o_nil, POp.ev, Opd.ev, gv, setD, Option.some.injEq, exists_eq_left', binV, ne_eq, not_true_eq_false, if_false]
    refine Test.split (fun hlt => ?_) (fun hlt => ?_)
    · have hlt' : i < B.ts.length := by simpa using hlt
      obtain ⟨b1, o1, h1, hat⟩ := (hsb.ext L4.ext).at hlt'
      have hmem := List.getElem_mem hlt'
      have hcb := (hbnd (scl (n * A.den) B.ts[i]) (List.mem_append.2 (.inr (List.mem_map_of_mem hmem)))).1
      have hwc : IntKind.i64.wrap (B.ts[i].c * (n * A.den)) = (scl (n * A.den) B.ts[i]).c := W_of_in (a := (scl (n * A.den) B.ts[i]).c) (by unfold inR; omega)
      refine s_skip1 ?_
      simp +decide only [p_seq_normal]
      refine s_block ?_
      refine s_reg ?_
      simp only [o_pure, o_eff, o_nil, POp.ev, Opd.ev, EOp.ev, gv, setD, List.set, Option.some.injEq, exists_eq_left', h1, hat.all, store4_new (lim := lim) (H := H3) (by omega)]
      have hBx := BoxT.mk' H3 B.ts[i]
      generalize H3.alloc (tc B.ts[i]) = H4 at hBx ⊢
      generalize hq : H3.next = q at hBx
      obtain ⟨cs4, t4, hB4⟩ := hBx.put0 (lim := lim) (by omega) (scl (n * A.den) B.ts[i]).c
      have L34 := L3.step hBx.ext
      refine s_reg ?_
      simp only [o_pure, o_eff, o_nil, POp.ev, Opd.ev, EOp.ev, gv, setD, Option.some.injEq, exists_eq_left', binV, load1V, fadV, ne_eq, not_true_eq_false, if_false, Nat.zero_add, hBx.c0, L34.c0, w3, hwc, t4]
      generalize H4.put q cs4 = H5 at hB4 ⊢
      clear t4 hBx cs4 L34 H4
      have hall : loadNV H5 4 (.pointer (some ⟨q, 0, none⟩)) = some (tv (scl (n * A.den) B.ts[i])) := hB4.all
      have hbs : ∀ t : Tm, bsliceH H5 1 [.int .i64 0, .int .i64 0, .int .i64 0, .int .i64 0] [(0, 4, tv t)] = some (.slice (some ⟨H5.next, 0, some 0⟩) 1 1, H5.alloc (tc t)) := fun t => rfl
      have hx5 := hB4.ext
      have hnx5 := hx5.next
      have hl3 := L3.lt
      have hl4 := L4.lt
      have hl5 := L5.lt
      obtain ⟨v', H6, b', e6, hv6, hb6', hlt6, c6⟩ := pushT (lim := lim) (VecT.ext hv hx5) (scl (n * A.den) B.ts[i]) (by omega) (by rw [List.length_append, List.length_map, List.length_map, List.length_take]; omega)
      refine s_reg1 ?_
      simp only [o_pure, o_eff, o_nil, POp.ev, Opd.ev, EOp.ev, gv, setD, List.set, List.map, Option.some.injEq, exists_eq_left', hall, hbs, e6]
      simp +decide only [p_seq_normal, p_block_normal]
      refine s_reg1 ?_
      simp only [o_pure, o_nil, POp.ev, Opd.ev, gv, setD, List.set, Option.some.injEq, exists_eq_left', binV, ne_eq, not_true_eq_false, if_false, add1 (i := i) (by omega)]
      simp +decide only [p_seq_normal]
      refine Round.mk (k - 1) (by omega) ⟨i + 1, b', _, _, _, by omega, ?_, by rcases hb6' with h | h <;> omega, by rcases hb6' with h | h <;> omega, by rcases hb6' with h | h <;> omega, by rcases hb6' with h | h <;> omega, (L3.step hx5).other c6 (Ne.symm hb3) hb0, (L4.step hx5).other c6 (Ne.symm hb4) hb0, (L5.step hx5).other c6 (Ne.symm hb5) hb0, rfl⟩
      rw [List.take_succ_eq_append_getElem hlt', List.map_append, ← List.append_assoc]
      exact hv6
    · have hge : i = B.ts.length := by simp at hlt; omega
      subst hge
      rw [List.take_length] at hv
      refine s_exit1 ?_
      simp +decide only [p_seq_normal, p_seq_exit, p_block_exit, reduceIte]
      have hv' : VecT H3 b so (addM A B n) := hv
      have hdm : 1 ≤ A.den * B.den ∧ A.den * B.den ≤ 1000000 := by
        have h1 := Int.mul_pos (show 0 < A.den by omega) (show 0 < B.den by omega)
        have h2 := Int.mul_le_mul hAd.2 hBd.2 (by omega) (by omega)
        omega
      have wm : IntKind.i64.wrap (A.den * B.den) = A.den * B.den := W_of_in (by unfold inR; omega)
      refine s_reg ?_
      simp only [o_pure, o_callN, POp.ev, Opd.ev, gv, setD, List.map, Option.some.injEq, exists_eq_left', binV, load1V, fadV, ne_eq, not_true_eq_false, if_false, Nat.zero_add, L3.c0, L4.c0, wm]
      refine (collectG_ok H3.next so _ H3 (Nat.le_refl _) (Vec.sl hv') (by omega)).weaken.mono ?_
      rintro vc H4 ⟨⟨bc, hbc1, hbc2, hvc, hx4⟩, _⟩
      have hn4 := hx4.next
      have hcl := coll_length (addM A B n)
      simp only [o_cont, o_callF, Opd.ev, gv, setD, List.map]
      refine (reduced_ok lim vc _ _ H4 (by omega) (Vec.sl hvc) (by omega) (by omega) (fun t ht => (hbn t (by rw [hcoll]; exact ht)).1)).mono ?_
      rintro _ H5 ⟨⟨sl, rfl, fS⟩, hx5⟩
      have hl5 := L5.lt
      obtain ⟨H6, e6, L6, c6, n6⟩ := ((L5.step hx4).step hx5).put2 hl (.int .i64 (redV (coll (addM A B n)) (A.den * B.den)).den) sl
      simp only [o_cont, o_eff, o_nil, Opd.ev, EOp.ev, gv, setD, Option.some.injEq, exists_eq_left', e6]
      refine s_ret1 ?_
      simp +decide only [p_fin_ret, resV, resOne, gv, Option.some.injEq, exists_eq_left', L6.load2]
      exact ⟨⟨sl, rfl, (fS.chg c6 (.inl (by omega))).low (by omega)⟩, L6.ext⟩

theorem times_ok (lim : Nat) (sa sb : Value) (A B : V) (H : AHeap) (hl : lim ≤ H.next) (hsa : SlT H sa A.ts) (hsb : SlT H sb B.ts) (hA : Good A) (hB : Good B) :
    ACalls Tryd.prog lim n_impl_value_times [.agg #[.int .i64 A.den, sa], .agg #[.int .i64 B.den, sb]] H fun v H' => IV H' H.next v (redV (coll (prodL A.ts B.ts)) (A.den * B.den)) ∧ Ext H H' := by
  refine is_impl_value_times.go rfl ?_
  unfold c_impl_value_times
  have hbnd := prod_bnd hA hB
  have hlen := prod_len hA hB
  obtain ⟨hcoll, hbn⟩ := put_bn (fun t ht => (hbnd t ht).1) (fun t ht => (hbnd t ht).2) (by omega) (by omega) (by omega)
  have hAd := hA.den
  have hBd := hB.den
  have hAl := hA.len
  have hBl := hB.len
  refine s_reg ?_
  simp only [o_eff, o_nil, Opd.ev, EOp.ev, env0, gu, gv, setD, List.set, Option.some.injEq, exists_eq_left', box2]
  have L3 := Own.mk' (Ext.refl H) [.int .i64 A.den, sa]
  generalize H.alloc [.int .i64 A.den, sa] = H1 at L3 ⊢
  have L4 := Own.mk' L3.ext [.int .i64 B.den, sb]
  replace L3 := L3.step (Ext.alloc H1 [.int .i64 B.den, sb])
  generalize H1.alloc [.int .i64 B.den, sb] = H2 at L3 L4 ⊢
  have L5 := Own.mk' L4.ext [.int .i64 0, .slice none 0 0]
  replace L3 := L3.step (Ext.alloc H2 [.int .i64 0, .slice none 0 0])
  replace L4 := L4.step (Ext.alloc H2 [.int .i64 0, .slice none 0 0])
  generalize H2.alloc [.int .i64 0, .slice none 0 0] = H3 at L3 L4 L5 ⊢
  have hn3 := L5.ext.next
  have hl5 := L5.lt
  generalize hp3 : H.next = p3 at L3
  generalize H1.next = p4 at L4
  generalize H2.next = p5 at L5 hl5
  have hdm : 1 ≤ A.den * B.den ∧ A.den * B.den ≤ 1000000 := by
    have h1 := Int.mul_pos (show 0 < A.den by omega) (show 0 < B.den by omega)
    have h2 := Int.mul_le_mul hAd.2 hBd.2 (by omega) (by omega)
    omega
  have wm : IntKind.i64.wrap (A.den * B.den) = A.den * B.den := W_of_in (by unfold inR; omega)
  refine s_reg ?_
  simp only [o_pure, o_callN, POp.ev, Opd.ev, gv, setD, List.map, Option.some.injEq, exists_eq_left', binV, load1V, fadV, ne_eq, not_true_eq_false, if_false, Nat.zero_add, L3.c0, L3.c1, L4.c0, L4.c1, wm]
  refine (multiplyTerms_ok H3.next sa sb A.ts B.ts H3 (Nat.le_refl _) (hsa.ext L3.ext) (hsb.ext L3.ext) (by omega) (by omega) (fun t ht => (hA.E t ht).exS (by omega)) (fun t ht => (hB.E t ht).exS (by omega))).weaken.mono ?_
  rintro vc H4 ⟨⟨bc, hbc1, hbc2, hvc, hx4⟩, _⟩
  have hn4 := hx4.next
  have hcl := coll_length (prodL A.ts B.ts)
  simp only [o_cont, o_callF, Opd.ev, gv, setD, List.map]
  refine (reduced_ok lim vc _ _ H4 (by omega) (Vec.sl hvc) (by omega) (by omega) (fun t ht => (hbn t (by rw [hcoll]; exact ht)).1)).mono ?_
  rintro _ H5 ⟨⟨sl, rfl, fS⟩, hx5⟩
  obtain ⟨H6, e6, L6, c6, n6⟩ := ((L5.step hx4).step hx5).put2 hl (.int .i64 (redV (coll (prodL A.ts B.ts)) (A.den * B.den)).den) sl
  simp only [o_cont, o_eff, o_nil, Opd.ev, EOp.ev, gv, setD, Option.some.injEq, exists_eq_left', e6]
  refine s_ret1 ?_
  simp +decide only [p_fin_ret, resV, resOne, gv, Option.some.injEq, exists_eq_left', L6.load2]
  exact ⟨⟨sl, rfl, (fS.chg c6 (.inl (by omega))).low (by omega)⟩, L6.ext⟩
end Go.Proofs.YtooaafekllkpbaaDoor
