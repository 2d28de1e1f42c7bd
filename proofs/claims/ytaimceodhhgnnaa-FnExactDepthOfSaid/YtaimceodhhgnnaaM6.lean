/- Parts of the proof of a statement of this seat: contracts of functions that the law calls, or the law's own row; no condition. -/
import Derived.Test.YtaimceodhhgnnaaAbArg
import Derived.Test.YtaimceodhhgnnaaRows
import Derived.WalkKit
import Derived.ProofKit
import Derived.OpenShut
import Derived.ShutString
import Derived.ChangeOld
import Derived.Below
import Derived.SizedLaws
import Derived.Test.YtaimceodhhgnnaaM5
/- The reader of expressions, implementation: products and sums; no condition beyond stated ranges. -/
namespace Go.Proofs.Ytaimceodhhgnnaa
open Go.Ab
set_option linter.unusedSimpArgs false
set_option linter.unusedVariables false

/-- a value that is too great is not forgotten -/
def Stk (f : PF) : Prop := ∀ st r, f st = some r → st.large = true → r.1.large = true
theorem stk_base {s : ByteArray} {d : Int} {S : Option PF} (hS : ∀ f, S = some f → Stk f) : Stk (pBase s d S) := by
  intro st r h hl
  unfold pBase at h
  split at h
  · cases h; exact hl
  · split at h
    · obtain ⟨f, hf, h⟩ := Option.bind_eq_some_iff.1 h
      obtain ⟨q, hq, h⟩ := Option.bind_eq_some_iff.1 h
      split at h
      · cases h
        have := hS f hf _ _ hq hl
        exact this
      · cases h
    · obtain ⟨a, ha, h⟩ := Option.bind_eq_some_iff.1 h
      split at h
      · obtain ⟨b, hb, h⟩ := Option.bind_eq_some_iff.1 h
        split at h
        · cases h
        · cases h; rw [keepF_large]; simp [hl]
      · cases h; rw [keepF_large]; simp [hl]
theorem stk_powP : ∀ (n : Nat) (st : St) (out b : V), st.large = true → (powP n st out b).1.large = true
  | 0, st, out, b, h => h
  | n + 1, st, out, b, h => stk_powP n _ _ _ (by rw [keepF_large]; simp [h])
theorem stk_factor {s : ByteArray} {B : PF} (hB : Stk B) : Stk (pFactor s B) := by
  intro st r h hl
  unfold pFactor at h
  obtain ⟨q, hq, h⟩ := Option.bind_eq_some_iff.1 h
  have h1 := hB _ _ hq hl
  split at h
  · split at h
    · cases h; exact stk_powP _ _ _ _ h1
    · cases h
  · cases h; exact h1
theorem stk_prodLoop {s : ByteArray} {F : PF} (hF : Stk F) : ∀ (k : Nat) (st : St) (v : V) (r : St × V), prodLoop s F k st v = some r → st.large = true → r.1.large = true
  | 0, st, v, r, h, _ => by cases h
  | k + 1, st, v, r, h, hl => by
    unfold prodLoop at h
    split at h
    · obtain ⟨q, hq, h⟩ := Option.bind_eq_some_iff.1 h
      exact stk_prodLoop hF k _ _ r h (by rw [keepF_large, hF _ _ hq hl]; rfl)
    · cases h; exact hl
theorem stk_prod {s : ByteArray} {F : PF} (hF : Stk F) : Stk (pProd s F) := by
  intro st r h hl
  unfold pProd at h
  obtain ⟨q, hq, h⟩ := Option.bind_eq_some_iff.1 h
  exact stk_prodLoop hF _ _ _ _ h (hF _ _ hq hl)
theorem stk_sumLoop {s : ByteArray} {F : PF} (hF : Stk F) : ∀ (k : Nat) (st : St) (v : V) (r : St × V), sumLoop s F k st v = some r → st.large = true → r.1.large = true
  | 0, st, v, r, h, _ => by cases h
  | k + 1, st, v, r, h, hl => by
    unfold sumLoop at h
    split at h
    · obtain ⟨q, hq, h⟩ := Option.bind_eq_some_iff.1 h
      exact stk_sumLoop hF k _ _ r h (by rw [keepF_large, hF _ _ hq hl]; rfl)
    · cases h; exact hl
theorem stk_sum {s : ByteArray} {F : PF} (hF : Stk F) : Stk (pSumF s F) := by
  intro st r h hl
  unfold pSumF at h
  split at h
  · obtain ⟨q, hq, h⟩ := Option.bind_eq_some_iff.1 h
    exact stk_sumLoop hF _ _ _ _ h (by rw [keepF_large, hF _ _ hq hl]; rfl)
  · obtain ⟨q, hq, h⟩ := Option.bind_eq_some_iff.1 h
    exact stk_sumLoop hF _ _ _ _ h (hF _ _ hq hl)
theorem stk_pS (s : ByteArray) : ∀ k, Stk (pS s k)
  | 0 => stk_sum (stk_prod (stk_factor (stk_base (by intro f h; cases h))))
  | k + 1 => stk_sum (stk_prod (stk_factor (stk_base (by intro f h; cases h; exact stk_pS s k))))

def mu (s : ByteArray) (f : Bool) (i : Nat) : Nat := if f = true ∧ isD (ch s i) = false then s.size + 1 - i else 0
theorem mu_stuck {s : ByteArray} {f : Bool} {i : Nat} (h : f = false ∨ isD (ch s i) = true) : mu s f i = 0 := by
  unfold mu
  rw [if_neg]
  rintro ⟨h1, h2⟩
  rcases h with h | h
  · rw [h] at h1; cases h1
  · rw [h] at h2; cases h2
theorem mu_le (s : ByteArray) (f : Bool) (i : Nat) : mu s f i ≤ s.size + 1 - i := by
  unfold mu
  split <;> omega

theorem iProd_ok (lim q : Nat) (s : ByteArray) (d : Int) (F : PF) (hq : lim ≤ q) (hs : s.size ≤ 100) (hadv : Adv s F) (hstk : Stk F) (hF : IOk lim q s d n_impl_reader_factor F) :
    IOk lim q s d n_impl_reader_product (pProd s F) := by
  intro H st hl hqn hi h
  refine is_impl_reader_product.go rfl ?_
  unfold c_impl_reader_product
  refine s_reg ?_
  simp only [o_eff, o_nil, EOp.ev, env0, gu, setD, List.set, Option.some.injEq, exists_eq_left']
  have L1 := Loc.mk' (Chg.refl q H) [.int .i64 0, .slice none 0 0]
  replace h := h.ext (Ext.alloc H [.int .i64 0, .slice none 0 0]) hqn
  generalize H.alloc [.int .i64 0, .slice none 0 0] = H1 at L1 h ⊢
  have hn1 := L1.lt
  generalize hp1 : H.next = p1 at L1 hn1
  refine s_reg ?_
  simp only [o_pure, o_callF, POp.ev, Opd.ev, gv, setD, List.map, Option.some.injEq, exists_eq_left']
  refine (hF H1 st (by omega) (by omega) hi h).mono ?_
  intro v H2 hr
  obtain ⟨c2, X, slx, i6, d6, m6, f6, t6, rfl, gX, fX, h2, hi6, hcase⟩ := ResI.cases hadv hr
  clear hr h
  have hn2 := c2.next
  simp only [o_cont, o_eff, o_nil, Opd.ev, EOp.ev, gv, setD, List.set, Option.some.injEq, exists_eq_left', store2_new (lim := lim) (H := H2) (by omega)]
  replace L1 := L1.step c2 hqn
  have L2 := Loc.mk' L1.chg [.int .i64 X.den, slx]
  have hlt1 := L1.lt
  have hx3 := Ext.alloc H2 [.int .i64 X.den, slx]
  replace L1 := L1.ext hx3
  replace h2 := h2.ext hx3 (by omega)
  have fX2 := (fX.held [p1] (by simp; omega)).more (Nat.le_refl H2.next)
  replace fX2 := fX2.ext hx3
  generalize H2.alloc [.int .i64 X.den, slx] = H3 at L1 L2 hx3 h2 fX2 ⊢
  have hn3 := hx3.next
  generalize H2.next = p2 at L2 hx3 fX2 hlt1 hn3 hn2
  clear fX
  obtain ⟨R, hR⟩ : ∃ R, R = pProd s F st := ⟨_, rfl⟩
  have hcase2 : (R = none ∧ (f6 = false ∨ isD (ch s i6) = true)) ∨ (f6 = true ∧ d6 = d ∧ ∃ (k : Nat) (l6 : Bool) (Up : V), t6 = !l6 ∧ s.size + 1 ≤ k + i6 ∧ R = prodLoop s F k ⟨i6, m6, l6⟩ Up ∧ (l6 = false → X = Up)) := by
    rcases hcase with ⟨hn, hbad⟩ | ⟨l6, Y, hsm, e1, e2, e3, _, _, hXY⟩
    · exact .inl ⟨by rw [hR]; unfold pProd; rw [hn]; rfl, hbad⟩
    · exact .inr ⟨e1, e2, s.size + 1, l6, Y, e3, by omega, by rw [hR]; unfold pProd; rw [hsm]; rfl, hXY⟩
  clear hcase
  rw [← hR]
  refine s_cut (fun e' H' => ∃ (su x3 : Value) (U : V) (i6 : Nat) (d6 m6 : Int) (f6 t6 : Bool), Good U ∧ Held H' H.next [p2, p1] su U.ts ∧ Loc q H H' p1 [.int .i64 0, .slice none 0 0] ∧ Loc q H H' p2 [.int .i64 U.den, su] ∧ IRd H' q s i6 d6 m6 f6 t6 ∧ i6 ≤ s.size ∧ (f6 = false ∨ ¬ ch s i6 = 42) ∧
    ((R = none ∧ (f6 = false ∨ isD (ch s i6) = true)) ∨ (f6 = true ∧ d6 = d ∧ ∃ (k : Nat) (l6 : Bool) (Up : V), t6 = !l6 ∧ s.size + 1 ≤ k + i6 ∧ R = prodLoop s F k ⟨i6, m6, l6⟩ Up ∧ (l6 = false → U = Up))) ∧ e' = [pt q, pt p1, pt p2, x3]) ?_ ?_
  · refine s_block1 ?_
    refine s_loop1 (fun k e' H' => ∃ (su x3 : Value) (U : V) (i6 : Nat) (d6 m6 : Int) (f6 t6 : Bool), k = mu s f6 i6 ∧ Good U ∧ Held H' H.next [p2, p1] su U.ts ∧ Loc q H H' p1 [.int .i64 0, .slice none 0 0] ∧ Loc q H H' p2 [.int .i64 U.den, su] ∧ IRd H' q s i6 d6 m6 f6 t6 ∧ i6 ≤ s.size ∧
      ((R = none ∧ (f6 = false ∨ isD (ch s i6) = true)) ∨ (f6 = true ∧ d6 = d ∧ ∃ (k : Nat) (l6 : Bool) (Up : V), t6 = !l6 ∧ s.size + 1 ≤ k + i6 ∧ R = prodLoop s F k ⟨i6, m6, l6⟩ Up ∧ (l6 = false → U = Up))) ∧ e' = [pt q, pt p1, pt p2, x3]) _ ⟨slx, _, X, i6, d6, m6, f6, t6, rfl, gX, fX2.imp id (fun ⟨b, g1, g2, g3, g4⟩ => ⟨b, by omega, g2, g3, g4⟩), L1, L2, h2, hi6, hcase2, rfl⟩ ?_
    clear fX2 L1 L2 h2 hcase2 gX hi6 hx3 hn3
    rintro kk e' H3 ⟨su, x3, U, i6, d6, m6, f6, t6, rfl, gU, hU, L1, L2, h3, hi6, hcase, rfl⟩
    have hn3 := L1.chg.next
    have hge1 := L1.ge
    have hge2 := L2.ge
    have hlt2 := L2.lt
    refine s_test ?_
    simp only [o_pure, o_nil, POp.ev, Opd.ev, gv, setD, Option.some.injEq, exists_eq_left', load1V, nilchkV, fadV, Nat.zero_add, h3.c4]
    cases hf6 : f6
    · refine Test.false_ (s_exit1 ?_)
      simp +decide only [p_seq_normal, p_seq_exit, p_block_exit, reduceIte]
      exact ⟨su, x3, U, i6, d6, m6, f6, t6, gU, hU, L1, L2, h3, hi6, .inl hf6, hcase, rfl⟩
    · refine Test.true_ (s_skip1 ?_)
      simp +decide only [p_seq_normal]
      refine s_block1 ?_
      refine s_assoc ?_
      refine s_reg ?_
      simp only [o_pure, o_callF, POp.ev, Opd.ev, gv, setD, List.map, Option.some.injEq, exists_eq_left']
      refine (iNext_ok lim q _ s i6 d6 m6 f6 t6 H3 hq (by omega) h3).mono ?_
      rintro _ H4 ⟨rfl, h4, c4⟩
      rw [hit_times] at h4 ⊢
      simp only [o_cont, o_pure, o_nil, POp.ev, Opd.ev, gv, setD, List.set, Option.some.injEq, exists_eq_left', extV, List.getElem?_toArray, List.getElem?_cons_zero, List.getElem?_cons_succ]
      have hn4 := c4.next
      replace L1 := L1.step c4 hqn
      replace L2 := L2.step c4 hqn
      replace hU := hU.chg c4 (.inr (by omega))
      refine s_test ?_
      simp only [o_pure, o_nil, POp.ev, Opd.ev, gv, setD, Option.some.injEq, exists_eq_left', unV]
      by_cases h42 : ch s i6 = 42
      · have hlt6 := ch_lt (s := s) (i := i6) (by omega)
        simp only [h42, decide_true, if_true, Bool.not_true] at h4 ⊢
        refine Test.false_ (s_skip1 ?_)
        simp +decide only [p_seq_normal]
        obtain ⟨_, rfl, k, l6, Up, rfl, hk, hRk, hUp⟩ := hcase.resolve_left (by
          rintro ⟨_, e | e⟩
          · rw [hf6] at e; cases e
          · rw [h42] at e; cases e)
        obtain ⟨k, rfl⟩ : ∃ k', k = k' + 1 := ⟨k - 1, by omega⟩
        have hun : prodLoop s F (k + 1) ⟨i6, m6, l6⟩ Up = (F ⟨i6 + 1, m6, l6⟩).bind fun r => prodLoop s F k (keepF r.1 (mulV Up r.2)).1 (keepF r.1 (mulV Up r.2)).2 := by
          rw [prodLoop, if_pos h42]
        rw [hun] at hRk
        have hmu : mu s true i6 = s.size + 1 - i6 := by
          unfold mu
          rw [if_pos ⟨rfl, by rw [h42]; rfl⟩]
        rw [hmu]
        subst hf6
        have hcall := hF H4 ⟨i6 + 1, m6, l6⟩ (by omega) (by omega) hlt6 h4
        refine s_regT1 ?_
        simp only [o_pure, o_eff, o_callF, t_op, t_alt, t_nil, o_nil, POp.ev, Opd.ev, EOp.ev, gv, setD, List.map, Option.map_some, Option.some.injEq, exists_eq_left', L2.load2]
        refine ⟨?_, ?_⟩
        ·
          refine hcall.mono ?_
          intro v H9 hr
          obtain ⟨c9, X, slx, i7, d7, m7, f7, t7, rfl, gX, fX, h9, hi7, hcase7⟩ := ResI.cases hadv hr
          obtain ⟨l7, rfl⟩ : ∃ l7, t7 = !l7 := ⟨!t7, by simp⟩
          have hn9 := c9.next
          have L19 := L1.step c9 hqn
          have L29 := L2.step c9 hqn
          have hU9 := hU.chg c9 (.inr (by omega))
          simp only [o_cont, o_nil, gv, setD]
          refine (times_ok lim su slx U X H9 (by omega) hU9.sl fX.sl gU gX).mono ?_
          rintro _ H10 ⟨⟨sl2, rfl, fW⟩, hx10⟩
          have hn10 := hx10.next
          obtain ⟨W, hW⟩ : ∃ W, W = redV (coll (prodL U.ts X.ts)) (U.den * X.den) := ⟨_, rfl⟩
          rw [← hW] at fW
          have hcl := coll_length (prodL U.ts X.ts)
          have hpl := prod_len gU gX
          have hWl : W.ts.length ≤ 100000 := by rw [hW, redV_len]; omega
          have hWx : ∀ t ∈ W.ts, exS t := by rw [hW]; exact redV_ex (mul_bn gU gX)
          have gW : toldB W = true → Good W := by rw [hW]; exact mul_red_good gU gX
          simp only [o_cont, o_nil, gv, setD]
          rw [← hW]
          refine (iKeepR_ok lim q s i7 d7 m7 f7 l7 sl2 W H9.next H10 hq (by omega) (by omega) (by omega) (h9.ext hx10 (by omega)) fW hWl hWx).mono ?_
          rintro _ H11 ⟨sl3, rfl, fK, h11, c11⟩
          have hn11 := c11.next
          obtain ⟨H12, e12, L12, c12, n12⟩ := ((L29.ext hx10).step c11 hqn).put2 hl (.int .i64 (kV l7 W).den) sl3
          simp only [o_cont, o_nil, gv, setD, Option.some.injEq, exists_eq_left', e12]
          try simp +decide only [p_seq_normal, p_block_normal]
          have hge2' := L29.ge
          have L112 := ((L19.ext hx10).step c11 hqn).other c12 (by omega) hge2'
          have h12 := h11.over c12 (by omega) (by omega)
          have hK := ((fK.held [p2, p1] (by simp; omega)).chg c12 (.inl (by simp)))
          refine Round.mk _ ?_ ⟨sl3, _, kV l7 W, i7, d7, m7, f7, _, rfl, kV_good gW, hK.imp id (fun ⟨b, g1, g2, g3, g4⟩ => ⟨b, by omega, g2, g3, g4⟩), L112, L12, h12, hi7, ?_, rfl⟩
          · rcases hcase7 with ⟨_, hbad⟩ | ⟨lr, Y, _, _, _, _, g1, _, _⟩
            · rw [mu_stuck hbad]; omega
            · have := mu_le s f7 i7
              simp only at g1
              omega
          · rcases hcase7 with ⟨hn, hbad⟩ | ⟨lr, Y, hsm, rfl, rfl, elr, g1, gY, hXY⟩
            · rw [hn] at hRk
              exact .inl ⟨hRk, hbad⟩
            · have elr' : l7 = lr := by cases l7 <;> cases lr <;> first | rfl | cases elr
              subst elr'
              rw [hsm, Option.bind_some] at hRk
              simp only at g1
              have hkr := keep_rel (i := i7) (m := m7) (l := l7) (W := W) (op := mulV Up Y) (fun e => by
                have e6 : l6 = false := by
                  cases hl6 : l6
                  · rfl
                  · have := hstk _ _ hsm hl6
                    simp only at this
                    rw [e] at this; cases this
                rw [← hUp e6, ← hXY e, hW]
                exact mul_red U X)
              have hst : (keepF ⟨i7, m7, l7⟩ (mulV Up Y)).1 = ⟨i7, m7, (keepF ⟨i7, m7, l7⟩ (mulV Up Y)).1.large⟩ := by
                cases mulV Up Y <;> rfl
              rw [hst] at hRk
              exact .inr ⟨rfl, rfl, k, _, _, hkr.1, by omega, hRk, hkr.2⟩
        ·
          refine hcall.mono ?_
          intro v H9 hr
          obtain ⟨c9, X, slx, i7, d7, m7, f7, t7, rfl, gX, fX, h9, hi7, hcase7⟩ := ResI.cases hadv hr
          obtain ⟨l7, rfl⟩ : ∃ l7, t7 = !l7 := ⟨!t7, by simp⟩
          have hn9 := c9.next
          have L19 := L1.step c9 hqn
          have L29 := L2.step c9 hqn
          have hU9 := hU.chg c9 (.inr (by omega))
          simp only [o_cont, o_nil, gv, setD, Option.map_some, Option.some.injEq, exists_eq_left', L29.load2]
          refine (times_ok lim su slx U X H9 (by omega) hU9.sl fX.sl gU gX).mono ?_
          rintro _ H10 ⟨⟨sl2, rfl, fW⟩, hx10⟩
          have hn10 := hx10.next
          obtain ⟨W, hW⟩ : ∃ W, W = redV (coll (prodL U.ts X.ts)) (U.den * X.den) := ⟨_, rfl⟩
          rw [← hW] at fW
          have hcl := coll_length (prodL U.ts X.ts)
          have hpl := prod_len gU gX
          have hWl : W.ts.length ≤ 100000 := by rw [hW, redV_len]; omega
          have hWx : ∀ t ∈ W.ts, exS t := by rw [hW]; exact redV_ex (mul_bn gU gX)
          have gW : toldB W = true → Good W := by rw [hW]; exact mul_red_good gU gX
          simp only [o_cont, o_nil, gv, setD]
          rw [← hW]
          refine (iKeepR_ok lim q s i7 d7 m7 f7 l7 sl2 W H9.next H10 hq (by omega) (by omega) (by omega) (h9.ext hx10 (by omega)) fW hWl hWx).mono ?_
          rintro _ H11 ⟨sl3, rfl, fK, h11, c11⟩
          have hn11 := c11.next
          obtain ⟨H12, e12, L12, c12, n12⟩ := ((L29.ext hx10).step c11 hqn).put2 hl (.int .i64 (kV l7 W).den) sl3
          simp only [o_cont, o_nil, gv, setD, Option.some.injEq, exists_eq_left', e12]
          try simp +decide only [p_seq_normal, p_block_normal]
          have hge2' := L29.ge
          have L112 := ((L19.ext hx10).step c11 hqn).other c12 (by omega) hge2'
          have h12 := h11.over c12 (by omega) (by omega)
          have hK := ((fK.held [p2, p1] (by simp; omega)).chg c12 (.inl (by simp)))
          refine Round.mk _ ?_ ⟨sl3, _, kV l7 W, i7, d7, m7, f7, _, rfl, kV_good gW, hK.imp id (fun ⟨b, g1, g2, g3, g4⟩ => ⟨b, by omega, g2, g3, g4⟩), L112, L12, h12, hi7, ?_, rfl⟩
          · rcases hcase7 with ⟨_, hbad⟩ | ⟨lr, Y, _, _, _, _, g1, _, _⟩
            · rw [mu_stuck hbad]; omega
            · have := mu_le s f7 i7
              simp only at g1
              omega
          · rcases hcase7 with ⟨hn, hbad⟩ | ⟨lr, Y, hsm, rfl, rfl, elr, g1, gY, hXY⟩
            · rw [hn] at hRk
              exact .inl ⟨hRk, hbad⟩
            · have elr' : l7 = lr := by cases l7 <;> cases lr <;> first | rfl | cases elr
              subst elr'
              rw [hsm, Option.bind_some] at hRk
              simp only at g1
              have hkr := keep_rel (i := i7) (m := m7) (l := l7) (W := W) (op := mulV Up Y) (fun e => by
                have e6 : l6 = false := by
                  cases hl6 : l6
                  · rfl
                  · have := hstk _ _ hsm hl6
                    simp only at this
                    rw [e] at this; cases this
                rw [← hUp e6, ← hXY e, hW]
                exact mul_red U X)
              have hst : (keepF ⟨i7, m7, l7⟩ (mulV Up Y)).1 = ⟨i7, m7, (keepF ⟨i7, m7, l7⟩ (mulV Up Y)).1.large⟩ := by
                cases mulV Up Y <;> rfl
              rw [hst] at hRk
              exact .inr ⟨rfl, rfl, k, _, _, hkr.1, by omega, hRk, hkr.2⟩
      · simp only [h42, decide_false, if_false, Bool.false_eq_true, Bool.not_false] at h4 ⊢
        refine Test.true_ (s_exit1 ?_)
        simp +decide only [p_seq_normal, p_seq_exit, p_block_exit, reduceIte]
        exact ⟨su, _, U, i6, d6, m6, f6, t6, gU, hU, L1, L2, h4, hi6, .inr h42, hcase, rfl⟩
  · clear fX2 L1 L2 h2 hcase2 gX hi6 hx3 hn3
    rintro e' H3 ⟨su, x3, U, i6, d6, m6, f6, t6, gU, hU, L1, L2, h3, hi6, hstop, hcase, rfl⟩
    have hn3 := L1.chg.next
    have hge1 := L1.ge
    obtain ⟨H9, e9, L9, c9, n9⟩ := L1.put2 hl (.int .i64 U.den) su
    refine s_reg ?_
    simp only [o_pure, o_eff, o_nil, POp.ev, Opd.ev, EOp.ev, gv, setD, Option.some.injEq, exists_eq_left', L2.load2, e9]
    refine s_ret1 ?_
    simp +decide only [p_fin_ret, resV, resOne, gv, Option.some.injEq, exists_eq_left', L9.load2]
    have h9 := h3.over c9 (by omega) (by omega)
    refine ⟨L9.chg, U, _, _, _, _, _, gU, ⟨su, rfl, (hU.chg c9 (.inl (by simp))).slf⟩, hi6, h9, ?_⟩
    rcases hcase with ⟨hn, hbad⟩ | ⟨rfl, rfl, k, l6, Up, rfl, hk, hRk, hUp⟩
    · rw [hn]
      exact hbad
    · obtain ⟨k, rfl⟩ : ∃ k', k = k' + 1 := ⟨k - 1, by omega⟩
      rw [hRk, prodLoop, if_neg (by simpa using hstop)]
      exact ⟨rfl, rfl, rfl, rfl, rfl, hUp⟩
end Go.Proofs.Ytaimceodhhgnnaa

/- The reader of expressions, implementation: sums, and the whole reader; no condition beyond stated ranges. -/
namespace Go.Proofs.Ytaimceodhhgnnaa
open Go.Ab
set_option linter.unusedSimpArgs false
set_option linter.unusedVariables false

theorem iSum_ok (lim q : Nat) (s : ByteArray) (d : Int) (F : PF) (hq : lim ≤ q) (hs : s.size ≤ 100) (hadv : Adv s F) (hstk : Stk F) (hF : IOk lim q s d n_impl_reader_product F) :
    IOk lim q s d n_impl_reader_sum (pSumF s F) := by
  intro H st hl hqn hi h
  refine is_impl_reader_sum.go rfl ?_
  unfold c_impl_reader_sum
  refine s_reg ?_
  simp only [o_eff, o_nil, EOp.ev, env0, gu, setD, List.set, Option.some.injEq, exists_eq_left']
  have L1 := Loc.mk' (Chg.refl q H) [.int .i64 0, .slice none 0 0]
  replace h := h.ext (Ext.alloc H [.int .i64 0, .slice none 0 0]) hqn
  generalize H.alloc [.int .i64 0, .slice none 0 0] = H1 at L1 h ⊢
  have hn1 := L1.lt
  have hnx1 := L1.chg.next
  generalize hp1 : H.next = p1 at L1 hn1
  refine s_reg ?_
  simp only [o_pure, o_callF, POp.ev, Opd.ev, gv, setD, List.map, Option.some.injEq, exists_eq_left']
  refine (iNext_ok lim q _ s st.i d st.most true (!st.large) H1 hq (by omega) h).mono ?_
  rintro _ H0 ⟨rfl, h0, c0⟩
  rw [hit_minus] at h0 ⊢
  simp only [o_cont, o_pure, o_nil, POp.ev, Opd.ev, gv, setD, List.set, Option.some.injEq, exists_eq_left', extV, List.getElem?_toArray, List.getElem?_cons_zero, List.getElem?_cons_succ]
  have hn0 := c0.next
  replace L1 := L1.step c0 hqn
  clear h
  obtain ⟨i0, hi0⟩ : ∃ i0, i0 = if decide (ch s st.i = 45) = true then st.i + 1 else st.i := ⟨_, rfl⟩
  rw [← hi0] at h0
  have hi0s : i0 ≤ s.size := by
    rw [hi0]
    split
    · exact ch_lt (s := s) (i := st.i) (by simp_all)
    · exact hi
  refine s_reg ?_
  simp only [o_pure, o_callF, POp.ev, Opd.ev, gv, setD, List.map, Option.some.injEq, exists_eq_left']
  refine (hF H0 ⟨i0, st.most, st.large⟩ (by omega) (by omega) hi0s h0).mono ?_
  intro v H2 hr
  obtain ⟨c2, X, slx, i6, d6, m6, f6, t6, rfl, gX, fX, h2, hi6, hcase⟩ := ResI.cases hadv hr
  clear hr h0
  have hn2 := c2.next
  simp only [o_cont, o_eff, o_nil, Opd.ev, EOp.ev, gv, setD, List.set, Option.some.injEq, exists_eq_left', store2_new (lim := lim) (H := H2) (by omega)]
  replace L1 := L1.step c2 hqn
  have L3 := Loc.mk' L1.chg [.int .i64 X.den, slx]
  have hlt1 := L1.lt
  have hx3 := Ext.alloc H2 [.int .i64 X.den, slx]
  replace L1 := L1.ext hx3
  replace h2 := h2.ext hx3 (by omega)
  have fX2 := (fX.held [p1] (by simp; omega)).more (Nat.le_refl H2.next)
  replace fX2 := fX2.ext hx3
  generalize H2.alloc [.int .i64 X.den, slx] = H3 at L1 L3 hx3 h2 fX2 ⊢
  have hn3 := hx3.next
  generalize H2.next = p3 at L3 hx3 fX2 hlt1 hn3 hn2
  clear fX
  have hlt3 := L3.lt
  have hge1 := L1.ge
  have hge3 := L3.ge
  obtain ⟨R, hR⟩ : ∃ R, R = pSumF s F st := ⟨_, rfl⟩
  rw [← hR]
  unfold pSumF at hR
  -- a sign ahead
  refine s_cut (fun e' H' => ∃ (su : Value) (U : V) (t6 : Bool), Good U ∧ Held H' H.next [p3, p1] su U.ts ∧ Loc q H H' p1 [.int .i64 0, .slice none 0 0] ∧ Loc q H H' p3 [.int .i64 U.den, su] ∧ IRd H' q s i6 d6 m6 f6 t6 ∧
    ((R = none ∧ (f6 = false ∨ isD (ch s i6) = true)) ∨ (f6 = true ∧ d6 = d ∧ ∃ (k : Nat) (l6 : Bool) (Up : V), t6 = !l6 ∧ s.size + 1 ≤ k + i6 ∧ R = sumLoop s F k ⟨i6, m6, l6⟩ Up ∧ (l6 = false → U = Up))) ∧ e' = [pt q, pt p1, .bool (decide (ch s st.i = 45)), pt p3, undef, undef, undef]) ?_ ?_
  · refine s_test1 ?_
    simp only [o_pure, o_nil, POp.ev, Opd.ev, gv, setD, Option.some.injEq, exists_eq_left']
    by_cases h45 : ch s st.i = 45
    · simp only [h45, decide_true, if_true] at hi0 ⊢
      rw [if_pos h45, ← hi0] at hR
      refine Test.true_ ?_
      have hfz : fillV [.int .i64 0, .slice none 0 0] [(0, 1, .int .i64 1)] = some [.int .i64 1, .slice none 0 0] := rfl
      refine s_reg1 ?_
      simp only [o_pure, o_callF, POp.ev, Opd.ev, gv, setD, List.map, Option.map_some, Option.some.injEq, exists_eq_left', hfz, L3.load2]
      refine (plus_ok lim (.slice none 0 0) slx zV X (-1) H3 (by omega) (SlF.nil H3 0).sl fX2.sl zV_good gX (.inr rfl)).mono ?_
      rintro _ H10 ⟨⟨sl2, rfl, fW⟩, hx10⟩
      have hn10 := hx10.next
      obtain ⟨W, hW⟩ : ∃ W, W = redV (coll (addM zV X (-1))) (zV.den * X.den) := ⟨_, rfl⟩
      rw [← hW] at fW
      have hcl := coll_length (addM zV X (-1))
      have hpl := addM_length zV_good gX (-1)
      have hWl : W.ts.length ≤ 100000 := by rw [hW, redV_len]; omega
      have hWx : ∀ t ∈ W.ts, exS t := by rw [hW]; exact redV_ex (add_bn zV_good gX (.inr rfl))
      have gW : toldB W = true → Good W := by rw [hW]; exact add_red_good zV_good gX (.inr rfl)
      obtain ⟨l6, rfl⟩ : ∃ l6, t6 = !l6 := ⟨!t6, by simp⟩
      simp only [o_cont, o_callF, Opd.ev, gv, setD, List.map]
      rw [← hW]
      refine (iKeepR_ok lim q s i6 d6 m6 f6 l6 sl2 W H3.next H10 hq (by omega) (by omega) (by omega) (h2.ext hx10 (by omega)) fW hWl hWx).mono ?_
      rintro _ H11 ⟨sl3, rfl, fK, h11, c11⟩
      have hn11 := c11.next
      obtain ⟨H12, e12, L12, c12, n12⟩ := ((L3.ext hx10).step c11 hqn).put2 hl (.int .i64 (kV l6 W).den) sl3
      simp only [o_cont, o_eff, o_nil, Opd.ev, EOp.ev, gv, setD, Option.some.injEq, exists_eq_left', e12]
      try simp +decide only [p_seq_normal]
      have L112 := ((L1.ext hx10).step c11 hqn).other c12 (by omega) hge3
      have h12 := h11.over c12 (by omega) (by omega)
      have hK := ((fK.held [p3, p1] (by simp; omega)).chg c12 (.inl (by simp)))
      refine ⟨sl3, kV l6 W, _, kV_good gW, hK.imp id (fun ⟨b, g1, g2, g3, g4⟩ => ⟨b, by omega, g2, g3, g4⟩), L112, L12, h12, ?_, trivial⟩
      rcases hcase with ⟨hn, hbad⟩ | ⟨lr, Y, hsm, rfl, rfl, elr, g1, gY, hXY⟩
      · rw [hn] at hR
        exact .inl ⟨hR, hbad⟩
      · have elr' : l6 = lr := by cases l6 <;> cases lr <;> first | rfl | cases elr
        subst elr'
        rw [hsm, Option.bind_some] at hR
        simp only at g1
        have hkr := keep_rel (i := i6) (m := m6) (l := l6) (W := W) (op := addV zV Y (-1)) (fun e => by
          rw [← hXY e, hW]
          exact add_red zV_good gX (.inr rfl))
        have hst : (keepF ⟨i6, m6, l6⟩ (addV zV Y (-1))).1 = ⟨i6, m6, (keepF ⟨i6, m6, l6⟩ (addV zV Y (-1))).1.large⟩ := by
          cases addV zV Y (-1) <;> rfl
        rw [hst] at hR
        exact .inr ⟨rfl, rfl, s.size + 1, _, _, hkr.1, by omega, hR, hkr.2⟩
    · simp only [h45, decide_false, if_false, Bool.false_eq_true] at hi0 ⊢
      rw [if_neg h45] at hR
      refine Test.false_ (s_skip1 ?_)
      simp +decide only [p_seq_normal]
      refine ⟨slx, X, t6, gX, fX2.imp id (fun ⟨b, g1, g2, g3, g4⟩ => ⟨b, by omega, g2, g3, g4⟩), L1, L3, h2, ?_, trivial⟩
      subst hi0
      rcases hcase with ⟨hn, hbad⟩ | ⟨lr, Y, hsm, e1, e2, e3, g1, gY, hXY⟩
      · have hn' : F st = none := hn
        rw [hn'] at hR
        exact .inl ⟨hR, hbad⟩
      · have hsm' : F st = some (⟨i6, m6, lr⟩, Y) := hsm
        rw [hsm', Option.bind_some] at hR
        exact .inr ⟨e1, e2, s.size + 1, lr, Y, e3, by omega, hR, hXY⟩
  clear L1 L3 h2 hcase gX fX2 hR hx3
  rintro e' H3 ⟨su, U, t6, gU, hU, L1, L3, h2, hcase, rfl⟩
  refine s_cut (fun e' H' => ∃ (su x4 x5 x6 : Value) (U : V) (i6 : Nat) (d6 m6 : Int) (f6 t6 : Bool), Good U ∧ Held H' H.next [p3, p1] su U.ts ∧ Loc q H H' p1 [.int .i64 0, .slice none 0 0] ∧ Loc q H H' p3 [.int .i64 U.den, su] ∧ IRd H' q s i6 d6 m6 f6 t6 ∧ i6 ≤ s.size ∧ (f6 = false ∨ ¬ (ch s i6 = 43 ∨ ch s i6 = 45)) ∧
    ((R = none ∧ (f6 = false ∨ isD (ch s i6) = true)) ∨ (f6 = true ∧ d6 = d ∧ ∃ (k : Nat) (l6 : Bool) (Up : V), t6 = !l6 ∧ s.size + 1 ≤ k + i6 ∧ R = sumLoop s F k ⟨i6, m6, l6⟩ Up ∧ (l6 = false → U = Up))) ∧ e' = [pt q, pt p1, .bool (decide (ch s st.i = 45)), pt p3, x4, x5, x6]) ?_ ?_
  · refine s_block1 ?_
    refine s_loop1 (fun k e' H' => ∃ (su x4 x5 x6 : Value) (U : V) (i6 : Nat) (d6 m6 : Int) (f6 t6 : Bool), k = mu s f6 i6 ∧ Good U ∧ Held H' H.next [p3, p1] su U.ts ∧ Loc q H H' p1 [.int .i64 0, .slice none 0 0] ∧ Loc q H H' p3 [.int .i64 U.den, su] ∧ IRd H' q s i6 d6 m6 f6 t6 ∧ i6 ≤ s.size ∧
      ((R = none ∧ (f6 = false ∨ isD (ch s i6) = true)) ∨ (f6 = true ∧ d6 = d ∧ ∃ (k : Nat) (l6 : Bool) (Up : V), t6 = !l6 ∧ s.size + 1 ≤ k + i6 ∧ R = sumLoop s F k ⟨i6, m6, l6⟩ Up ∧ (l6 = false → U = Up))) ∧ e' = [pt q, pt p1, .bool (decide (ch s st.i = 45)), pt p3, x4, x5, x6]) _ ⟨su, _, _, _, U, i6, d6, m6, f6, t6, rfl, gU, hU, L1, L3, h2, hi6, hcase, rfl⟩ ?_
    clear hU L1 L3 h2 hcase gU hi6 hn3 hlt3
    rintro kk e' H3 ⟨su, x4, x5, x6, U, i6, d6, m6, f6, t6, rfl, gU, hU, L1, L2, h3, hi6, hcase, rfl⟩
    have hn3 := L1.chg.next
    have hlt2 := L2.lt
    refine s_test ?_
    simp only [o_pure, o_nil, POp.ev, Opd.ev, gv, setD, Option.some.injEq, exists_eq_left', load1V, nilchkV, fadV, Nat.zero_add, h3.c4]
    cases hf6 : f6
    · refine Test.false_ (s_exit1 ?_)
      simp +decide only [p_seq_normal, p_seq_exit, p_block_exit, reduceIte]
      exact ⟨su, x4, x5, x6, U, i6, d6, m6, f6, t6, gU, hU, L1, L2, h3, hi6, .inl hf6, hcase, rfl⟩
    · refine Test.true_ (s_skip1 ?_)
      simp +decide only [p_seq_normal]
      refine s_block1 ?_
      refine s_reg ?_
      simp only [o_pure, o_callF, POp.ev, Opd.ev, gv, setD, List.map, Option.some.injEq, exists_eq_left']
      refine (iNext_ok lim q _ s i6 d6 m6 f6 t6 H3 hq (by omega) h3).mono ?_
      rintro _ H4 ⟨rfl, h4, c4⟩
      rw [hit_pm] at h4 ⊢
      simp only [o_cont, o_pure, o_nil, POp.ev, Opd.ev, gv, setD, List.set, Option.some.injEq, exists_eq_left', extV, List.getElem?_toArray, List.getElem?_cons_zero, List.getElem?_cons_succ]
      have hn4 := c4.next
      replace L1 := L1.step c4 hqn
      replace L2 := L2.step c4 hqn
      replace hU := hU.chg c4 (.inr (by omega))
      refine s_test ?_
      simp only [o_pure, o_nil, POp.ev, Opd.ev, gv, setD, Option.some.injEq, exists_eq_left', unV]
      by_cases hpm : ch s i6 = 43 ∨ ch s i6 = 45
      · have hlt6 := ch_lt (s := s) (i := i6) (by omega)
        simp only [hpm, decide_true, if_true, Bool.not_true] at h4 ⊢
        refine Test.false_ (s_skip1 ?_)
        simp +decide only [p_seq_normal]
        obtain ⟨_, rfl, k, l6, Up, rfl, hk, hRk, hUp⟩ := hcase.resolve_left (by
          rintro ⟨_, e | e⟩
          · rw [hf6] at e; cases e
          · rcases hpm with h | h <;> (rw [h] at e; cases e))
        obtain ⟨k, rfl⟩ : ∃ k', k = k' + 1 := ⟨k - 1, by omega⟩
        have hun : sumLoop s F (k + 1) ⟨i6, m6, l6⟩ Up = (F ⟨i6 + 1, m6, l6⟩).bind fun r => sumLoop s F k (keepF r.1 (addV Up r.2 (sgnC (ch s i6)))).1 (keepF r.1 (addV Up r.2 (sgnC (ch s i6)))).2 := by
          rw [sumLoop, if_pos hpm]
        rw [hun] at hRk
        have hmu : mu s true i6 = s.size + 1 - i6 := by
          unfold mu
          rw [if_pos ⟨rfl, by rcases hpm with h | h <;> (rw [h]; rfl)⟩]
        rw [hmu]
        subst hf6
        have e45 : ((ch s i6 : Int) == 45) = decide (ch s i6 = 45) := int_beq _ 45
        refine s_reg ?_
        simp only [o_pure, o_nil, POp.ev, Opd.ev, setD, List.set, Option.some.injEq, exists_eq_left']
        refine s_cut (fun e' H' => H' = H4 ∧ e' = [pt q, pt p1, .bool (decide (ch s st.i = 45)), pt p3, .int .u8 (ch s i6), .bool true, .int .i64 (sgnC (ch s i6))]) ?_ ?_
        · refine s_test1 ?_
          simp only [o_pure, o_nil, POp.ev, Opd.ev, gv, setD, Option.some.injEq, exists_eq_left', binV, ne_eq, not_true_eq_false, if_false, e45]
          by_cases h45 : ch s i6 = 45
          · simp only [h45, decide_true]
            refine Test.true_ (s_reg1 ?_)
            simp only [o_pure, o_nil, POp.ev, Opd.ev, setD, List.set, Option.some.injEq, exists_eq_left']
            simp +decide only [p_seq_normal]
            exact ⟨trivial, rfl⟩
          · simp only [h45, decide_false]
            refine Test.false_ (s_skip1 ?_)
            simp +decide only [p_seq_normal]
            unfold sgnC
            rw [if_neg h45]
            exact ⟨trivial, rfl⟩
        rintro e' H' ⟨rfl, rfl⟩
        have hcall := hF H' ⟨i6 + 1, m6, l6⟩ (by omega) (by omega) hlt6 h4
        refine s_regT1 ?_
        simp only [o_pure, o_eff, o_callF, t_op, t_alt, t_nil, o_nil, POp.ev, Opd.ev, EOp.ev, gv, setD, List.map, Option.map_some, Option.some.injEq, exists_eq_left', L2.load2]
        refine ⟨?_, ?_⟩
        ·
          refine hcall.mono ?_
          intro v H9 hr
          obtain ⟨c9, X, slx, i7, d7, m7, f7, t7, rfl, gX, fX, h9, hi7, hcase7⟩ := ResI.cases hadv hr
          obtain ⟨l7, rfl⟩ : ∃ l7, t7 = !l7 := ⟨!t7, by simp⟩
          have hn9 := c9.next
          have L19 := L1.step c9 hqn
          have L29 := L2.step c9 hqn
          have hU9 := hU.chg c9 (.inr (by omega))
          simp only [o_cont, o_nil, gv, setD]
          refine (plus_ok lim su slx U X (sgnC (ch s i6)) H9 (by omega) hU9.sl fX.sl gU gX (sgnC_or _)).mono ?_
          rintro _ H10 ⟨⟨sl2, rfl, fW⟩, hx10⟩
          have hn10 := hx10.next
          obtain ⟨W, hW⟩ : ∃ W, W = redV (coll (addM U X (sgnC (ch s i6)))) (U.den * X.den) := ⟨_, rfl⟩
          rw [← hW] at fW
          have hcl := coll_length (addM U X (sgnC (ch s i6)))
          have hpl := addM_length gU gX (sgnC (ch s i6))
          have hWl : W.ts.length ≤ 100000 := by rw [hW, redV_len]; omega
          have hWx : ∀ t ∈ W.ts, exS t := by rw [hW]; exact redV_ex (add_bn gU gX (sgnC_or _))
          have gW : toldB W = true → Good W := by rw [hW]; exact add_red_good gU gX (sgnC_or _)
          simp only [o_cont, o_nil, gv, setD]
          rw [← hW]
          refine (iKeepR_ok lim q s i7 d7 m7 f7 l7 sl2 W H9.next H10 hq (by omega) (by omega) (by omega) (h9.ext hx10 (by omega)) fW hWl hWx).mono ?_
          rintro _ H11 ⟨sl3, rfl, fK, h11, c11⟩
          have hn11 := c11.next
          obtain ⟨H12, e12, L12, c12, n12⟩ := ((L29.ext hx10).step c11 hqn).put2 hl (.int .i64 (kV l7 W).den) sl3
          simp only [o_cont, o_nil, gv, setD, Option.some.injEq, exists_eq_left', e12]
          try simp +decide only [p_seq_normal, p_block_normal]
          have hge2' := L29.ge
          have L112 := ((L19.ext hx10).step c11 hqn).other c12 (by omega) hge2'
          have h12 := h11.over c12 (by omega) (by omega)
          have hK := ((fK.held [p3, p1] (by simp; omega)).chg c12 (.inl (by simp)))
          refine Round.mk _ ?_ ⟨sl3, _, _, _, kV l7 W, i7, d7, m7, f7, _, rfl, kV_good gW, hK.imp id (fun ⟨b, g1, g2, g3, g4⟩ => ⟨b, by omega, g2, g3, g4⟩), L112, L12, h12, hi7, ?_, rfl⟩
          · rcases hcase7 with ⟨_, hbad⟩ | ⟨lr, Y, _, _, _, _, g1, _, _⟩
            · rw [mu_stuck hbad]; omega
            · have := mu_le s f7 i7
              simp only at g1
              omega
          · rcases hcase7 with ⟨hn, hbad⟩ | ⟨lr, Y, hsm, rfl, rfl, elr, g1, gY, hXY⟩
            · rw [hn] at hRk
              exact .inl ⟨hRk, hbad⟩
            · have elr' : l7 = lr := by cases l7 <;> cases lr <;> first | rfl | cases elr
              subst elr'
              rw [hsm, Option.bind_some] at hRk
              simp only at g1
              have hkr := keep_rel (i := i7) (m := m7) (l := l7) (W := W) (op := addV Up Y (sgnC (ch s i6))) (fun e => by
                have e6 : l6 = false := by
                  cases hl6 : l6
                  · rfl
                  · have := hstk _ _ hsm hl6
                    simp only at this
                    rw [e] at this; cases this
                rw [← hUp e6, ← hXY e, hW]
                exact add_red gU gX (sgnC_or _))
              have hst : (keepF ⟨i7, m7, l7⟩ (addV Up Y (sgnC (ch s i6)))).1 = ⟨i7, m7, (keepF ⟨i7, m7, l7⟩ (addV Up Y (sgnC (ch s i6)))).1.large⟩ := by
                cases addV Up Y (sgnC (ch s i6)) <;> rfl
              rw [hst] at hRk
              exact .inr ⟨rfl, rfl, k, _, _, hkr.1, by omega, hRk, hkr.2⟩
        ·
          refine hcall.mono ?_
          intro v H9 hr
          obtain ⟨c9, X, slx, i7, d7, m7, f7, t7, rfl, gX, fX, h9, hi7, hcase7⟩ := ResI.cases hadv hr
          obtain ⟨l7, rfl⟩ : ∃ l7, t7 = !l7 := ⟨!t7, by simp⟩
          have hn9 := c9.next
          have L19 := L1.step c9 hqn
          have L29 := L2.step c9 hqn
          have hU9 := hU.chg c9 (.inr (by omega))
          simp only [o_cont, o_nil, gv, setD, Option.map_some, Option.some.injEq, exists_eq_left', L29.load2]
          refine (plus_ok lim su slx U X (sgnC (ch s i6)) H9 (by omega) hU9.sl fX.sl gU gX (sgnC_or _)).mono ?_
          rintro _ H10 ⟨⟨sl2, rfl, fW⟩, hx10⟩
          have hn10 := hx10.next
          obtain ⟨W, hW⟩ : ∃ W, W = redV (coll (addM U X (sgnC (ch s i6)))) (U.den * X.den) := ⟨_, rfl⟩
          rw [← hW] at fW
          have hcl := coll_length (addM U X (sgnC (ch s i6)))
          have hpl := addM_length gU gX (sgnC (ch s i6))
          have hWl : W.ts.length ≤ 100000 := by rw [hW, redV_len]; omega
          have hWx : ∀ t ∈ W.ts, exS t := by rw [hW]; exact redV_ex (add_bn gU gX (sgnC_or _))
          have gW : toldB W = true → Good W := by rw [hW]; exact add_red_good gU gX (sgnC_or _)
          simp only [o_cont, o_nil, gv, setD]
          rw [← hW]
          refine (iKeepR_ok lim q s i7 d7 m7 f7 l7 sl2 W H9.next H10 hq (by omega) (by omega) (by omega) (h9.ext hx10 (by omega)) fW hWl hWx).mono ?_
          rintro _ H11 ⟨sl3, rfl, fK, h11, c11⟩
          have hn11 := c11.next
          obtain ⟨H12, e12, L12, c12, n12⟩ := ((L29.ext hx10).step c11 hqn).put2 hl (.int .i64 (kV l7 W).den) sl3
          simp only [o_cont, o_nil, gv, setD, Option.some.injEq, exists_eq_left', e12]
          try simp +decide only [p_seq_normal, p_block_normal]
          have hge2' := L29.ge
          have L112 := ((L19.ext hx10).step c11 hqn).other c12 (by omega) hge2'
          have h12 := h11.over c12 (by omega) (by omega)
          have hK := ((fK.held [p3, p1] (by simp; omega)).chg c12 (.inl (by simp)))
          refine Round.mk _ ?_ ⟨sl3, _, _, _, kV l7 W, i7, d7, m7, f7, _, rfl, kV_good gW, hK.imp id (fun ⟨b, g1, g2, g3, g4⟩ => ⟨b, by omega, g2, g3, g4⟩), L112, L12, h12, hi7, ?_, rfl⟩
          · rcases hcase7 with ⟨_, hbad⟩ | ⟨lr, Y, _, _, _, _, g1, _, _⟩
            · rw [mu_stuck hbad]; omega
            · have := mu_le s f7 i7
              simp only at g1
              omega
          · rcases hcase7 with ⟨hn, hbad⟩ | ⟨lr, Y, hsm, rfl, rfl, elr, g1, gY, hXY⟩
            · rw [hn] at hRk
              exact .inl ⟨hRk, hbad⟩
            · have elr' : l7 = lr := by cases l7 <;> cases lr <;> first | rfl | cases elr
              subst elr'
              rw [hsm, Option.bind_some] at hRk
              simp only at g1
              have hkr := keep_rel (i := i7) (m := m7) (l := l7) (W := W) (op := addV Up Y (sgnC (ch s i6))) (fun e => by
                have e6 : l6 = false := by
                  cases hl6 : l6
                  · rfl
                  · have := hstk _ _ hsm hl6
                    simp only at this
                    rw [e] at this; cases this
                rw [← hUp e6, ← hXY e, hW]
                exact add_red gU gX (sgnC_or _))
              have hst : (keepF ⟨i7, m7, l7⟩ (addV Up Y (sgnC (ch s i6)))).1 = ⟨i7, m7, (keepF ⟨i7, m7, l7⟩ (addV Up Y (sgnC (ch s i6)))).1.large⟩ := by
                cases addV Up Y (sgnC (ch s i6)) <;> rfl
              rw [hst] at hRk
              exact .inr ⟨rfl, rfl, k, _, _, hkr.1, by omega, hRk, hkr.2⟩
      · simp only [hpm, decide_false, if_false, Bool.false_eq_true, Bool.not_false] at h4 ⊢
        refine Test.true_ (s_exit1 ?_)
        simp +decide only [p_seq_normal, p_seq_exit, p_block_exit, reduceIte]
        exact ⟨su, _, _, _, U, i6, d6, m6, f6, t6, gU, hU, L1, L2, h4, hi6, .inr hpm, hcase, rfl⟩
  · clear hU L1 L3 h2 hcase gU hi6 hn3 hlt3
    rintro e' H3 ⟨su, x4, x5, x6, U, i6, d6, m6, f6, t6, gU, hU, L1, L2, h3, hi6, hstop, hcase, rfl⟩
    have hn3 := L1.chg.next
    obtain ⟨H9, e9, L9, c9, n9⟩ := L1.put2 hl (.int .i64 U.den) su
    refine s_reg ?_
    simp only [o_pure, o_eff, o_nil, POp.ev, Opd.ev, EOp.ev, gv, setD, Option.some.injEq, exists_eq_left', L2.load2, e9]
    refine s_ret1 ?_
    simp +decide only [p_fin_ret, resV, resOne, gv, Option.some.injEq, exists_eq_left', L9.load2]
    have h9 := h3.over c9 (by omega) (by omega)
    refine ⟨L9.chg, U, _, _, _, _, _, gU, ⟨su, rfl, (hU.chg c9 (.inl (by simp))).slf⟩, hi6, h9, ?_⟩
    rcases hcase with ⟨hn, hbad⟩ | ⟨rfl, rfl, k, l6, Up, rfl, hk, hRk, hUp⟩
    · rw [hn]
      exact hbad
    · obtain ⟨k, rfl⟩ : ∃ k', k = k' + 1 := ⟨k - 1, by omega⟩
      rw [hRk, sumLoop, if_neg (by simpa using hstop)]
      exact ⟨rfl, rfl, rfl, rfl, rfl, hUp⟩

theorem iS_ok (lim q : Nat) (s : ByteArray) (hq : lim ≤ q) (hs : s.size ≤ 100) : ∀ k : Nat, k ≤ 4 → IOk lim q s (4 - (k : Int)) n_impl_reader_sum (pS s k)
  | 0, _ => by
    have h1 := iBase_ok lim q s 4 none hq hs (by omega) (by intro f h; cases h) (fun _ => rfl)
    have a1 : Adv s (pBase s 4 none) := adv_base (by intro f h; cases h)
    have k1 : Stk (pBase s 4 none) := stk_base (by intro f h; cases h)
    have h2 := iFactor_ok lim q s 4 _ hq hs a1 h1
    have h3 := iProd_ok lim q s 4 _ hq hs (adv_factor a1) (stk_factor k1) h2
    exact iSum_ok lim q s 4 _ hq hs (adv_prod (adv_factor a1)) (stk_prod (stk_factor k1)) h3
  | k + 1, hk => by
    have ih := iS_ok lim q s hq hs k (by omega)
    have e1 : (4 : Int) - (k : Int) = 3 - (k : Int) + 1 := by omega
    have e2 : (4 : Int) - ((k + 1 : Nat) : Int) = 3 - (k : Int) := by omega
    rw [e1] at ih
    rw [e2]
    have h1 := iBase_ok lim q s (3 - (k : Int)) (some (pS s k)) hq hs (by omega) (by intro f h; cases h; exact ⟨by omega, adv_pS s k, ih⟩) (by intro h; cases h)
    have a1 : Adv s (pBase s (3 - (k : Int)) (some (pS s k))) := adv_base (by intro f h; cases h; exact adv_pS s k)
    have k1 : Stk (pBase s (3 - (k : Int)) (some (pS s k))) := stk_base (by intro f h; cases h; exact stk_pS s k)
    have h2 := iFactor_ok lim q s (3 - (k : Int)) _ hq hs a1 h1
    have h3 := iProd_ok lim q s (3 - (k : Int)) _ hq hs (adv_factor a1) (stk_factor k1) h2
    exact iSum_ok lim q s (3 - (k : Int)) _ hq hs (adv_prod (adv_factor a1)) (stk_prod (stk_factor k1)) h3

/-- what the whole reading answers -/
def ReadI (s : ByteArray) (H : AHeap) (v : Value) (H' : AHeap) : Prop :=
  Ext H H' ∧ ∃ (q : Nat) (X : V) (a sl : Value) (i d m : Int) (f t : Bool), v = pt q ∧ q < H'.next ∧ H'.blk q = some [.string s, .int .i64 i, .int .i64 d, .int .i64 m, .bool f, .bool t, a, sl] ∧
    (match pRead s with | some r => f = true ∧ m = r.1.most ∧ t = !r.1.large ∧ (r.1.large = false → X = r.2) ∧ a = .int .i64 X.den ∧ SlF H' H.next sl X.ts ∧ Good X | none => f = false)

theorem read_ok (lim : Nat) (s : ByteArray) (H : AHeap) (hl : lim ≤ H.next) : ACalls Try.prog lim n_impl_read [.string s] H fun v H' => ReadI s H v H' := by
  refine is_impl_read.go rfl ?_
  unfold c_impl_read
  refine s_reg ?_
  simp only [o_pure, o_nil, POp.ev, Opd.ev, env0, gu, setD, List.set, Option.some.injEq, exists_eq_left']
  have hf : ∀ b : Bool, fillV [.string ⟨⟨[]⟩⟩, .int .i64 0, .int .i64 0, .int .i64 0, .bool false, .bool false, .int .i64 0, .slice none 0 0] [(0, 1, .string s), (4, 1, .bool b), (5, 1, .bool true)] = some [.string s, .int .i64 0, .int .i64 0, .int .i64 0, .bool b, .bool true, .int .i64 0, .slice none 0 0] := fun b => rfl
  have hbx : ∀ cs : List Value, boxH H (.agg cs.toArray) = some (pt H.next, H.alloc cs) := fun cs => rfl
  refine s_reg ?_
  simp only [o_pure, o_eff, o_nil, POp.ev, Opd.ev, EOp.ev, gv, setD, List.set, List.map, Option.map_some, Option.some.injEq, exists_eq_left', binV, slenV, ne_eq, not_true_eq_false, if_false, hf, hbx]
  have Lq := Own.mk' (Ext.refl H) [.string s, .int .i64 0, .int .i64 0, .int .i64 0, .bool (decide ((s.size : Int) ≤ 100)), .bool true, .int .i64 0, .slice none 0 0]
  have hx2 := Ext.alloc H [.string s, .int .i64 0, .int .i64 0, .int .i64 0, .bool (decide ((s.size : Int) ≤ 100)), .bool true, .int .i64 0, .slice none 0 0]
  generalize H.alloc [.string s, .int .i64 0, .int .i64 0, .int .i64 0, .bool (decide ((s.size : Int) ≤ 100)), .bool true, .int .i64 0, .slice none 0 0] = H2 at Lq hx2 ⊢
  have hn2 := Lq.lt
  have hgeq := Lq.ge
  generalize hqe : H.next = q at Lq hn2 hgeq
  have h2 : IRd H2 q s ((0 : Nat) : Int) 0 0 (decide ((s.size : Int) ≤ 100)) true := Lq.blk
  refine s_cut (fun e' H' => ∃ (X : V) (a sl : Value) (i d m : Int) (f t : Bool), Chg q H2 H' ∧ H'.blk q = some [.string s, .int .i64 i, .int .i64 d, .int .i64 m, .bool f, .bool t, a, sl] ∧
    (match pRead s with | some r => f = true ∧ i = s.size ∧ m = r.1.most ∧ t = !r.1.large ∧ (r.1.large = false → X = r.2) ∧ a = .int .i64 X.den ∧ SlF H' (q + 1) sl X.ts ∧ Good X | none => f = false ∨ i ≠ s.size) ∧ e' = [.string s, .pointer none, pt q]) ?_ ?_
  · refine s_test1 ?_
    simp only [o_pure, o_nil, POp.ev, Opd.ev, gv, setD, Option.some.injEq, exists_eq_left', load1V, nilchkV, fadV, ne_eq, Nat.zero_add, h2.c4]
    by_cases hb : s.size ≤ 100
    · have hb' : decide ((s.size : Int) ≤ 100) = true := by simp; omega
      rw [hb'] at h2 ⊢
      have hcall := iS_ok lim q s (by omega) hb 4 (by omega) H2 ⟨0, 0, false⟩ (by omega) hn2 (Nat.zero_le _) h2
      refine Test.true_ ?_
      refine s_reg1 ?_
      simp only [o_pure, o_callF, POp.ev, Opd.ev, gv, setD, List.map, Option.some.injEq, exists_eq_left']
      refine hcall.mono ?_
      intro v H3 hr
      obtain ⟨c3, X, slx, i6, d6, m6, f6, t6, rfl, gX, fX, h3, hi6, hcase⟩ := ResI.cases (adv_pS s 4) hr
      have hn3 := c3.next
      have hst : storeH lim H3 2 (.pointer (some ⟨q, 6, none⟩)) (.agg #[.int .i64 X.den, slx]) = some (undef, H3.put q [.string s, .int .i64 i6, .int .i64 d6, .int .i64 m6, .bool f6, .bool t6, .int .i64 X.den, slx]) := by
        unfold IRd at h3
        simp only [storeH, cellsV, Option.bind_some, h3]
        rw [if_pos ⟨rfl, by omega⟩, if_pos (by simp)]
        rfl
      simp only [o_cont, o_pure, o_eff, o_nil, POp.ev, Opd.ev, EOp.ev, gv, setD, Option.some.injEq, exists_eq_left', nilchkV, fadV, Nat.zero_add, hst]
      simp +decide only [p_seq_normal]
      refine ⟨X, _, _, _, _, _, _, _, c3.trans (Chg.put _ _ _), put_same _ _ _, ?_, trivial⟩
      unfold pRead
      rw [if_pos hb]
      rcases hcase with ⟨hn, hbad⟩ | ⟨l6, Y, hsm, rfl, rfl, rfl, _, gY, hXY⟩
      · rw [hn]
        rcases hbad with h | h
        · exact .inl h
        · refine .inr ?_
          have := isD_lt h
          omega
      · rw [hsm]
        simp only [Option.bind_some]
        by_cases hi : i6 = s.size
        · rw [if_pos hi]
          exact ⟨trivial, by rw [hi], rfl, rfl, hXY, trivial, (fX.chg (Chg.put _ _ _) (.inl (by omega))).low (by omega), gX⟩
        · rw [if_neg hi]
          exact .inr (by omega)
    · have hb' : decide ((s.size : Int) ≤ 100) = false := by simp; omega
      rw [hb'] at h2 ⊢
      refine Test.false_ (s_skip1 ?_)
      simp +decide only [p_seq_normal]
      refine ⟨zV, _, _, _, _, _, _, _, Chg.refl _ _, h2, ?_, trivial⟩
      unfold pRead
      rw [if_neg hb]
      exact .inl rfl
  · rintro e' H3 ⟨X, a, sl, i, d, m, f, t, c3, hblk, hm, rfl⟩
    have hn3 := c3.next
    have k4 : H3.cell q 4 = some (.bool f) := cell_blk hblk 4
    have k1 : H3.cell q 1 = some (.int .i64 i) := cell_blk hblk 1
    have hst := store_cell (lim := lim) (H := H3) (b := q) (o := 4) (x := .bool (f && (i == (s.size : Int)))) rfl (by omega) hblk (by simp)
    have hcut : awpOps Try.prog lim [⟨.pure (.id (.v 2)), none, none⟩] (fun _ _ _ => True) [] [] H3 := by simp only [o_pure, o_nil, POp.ev, Opd.ev, gv, setD, Option.some.injEq, exists_eq_left']
    refine s_reg_cut (fun e' H' => H' = H3.put q [.string s, .int .i64 i, .int .i64 d, .int .i64 m, .bool (f && (i == (s.size : Int))), .bool t, a, sl] ∧ e' = [.string s, .pointer none, pt q]) ?_ ?_
    · cases hf : f
      · rw [hf] at hst
        simp only [Bool.false_and] at hst
        simp only [o_pure, o_eff, o_guard, gk_ft, o_nil, POp.ev, Opd.ev, EOp.ev, gv, setD, List.set, Option.some.injEq, exists_eq_left', pickV, load1V, nilchkV, fadV, Nat.zero_add, k4, hf, hst]
        exact ⟨rfl, trivial⟩
      · rw [hf] at hst
        simp only [Bool.true_and] at hst
        simp only [o_pure, o_eff, o_guard, gk_tt, o_nil, POp.ev, Opd.ev, EOp.ev, gv, setD, List.set, Option.some.injEq, exists_eq_left', pickV, binV, load1V, nilchkV, fadV, slenV, ne_eq, not_true_eq_false, if_false, Nat.zero_add, k4, k1, hf, hst]
        exact ⟨rfl, trivial⟩
    · rintro e' H' ⟨rfl, rfl⟩
      refine s_reg ?_
      simp only [o_pure, o_nil, POp.ev, Opd.ev, gv, setD, List.set, Option.some.injEq, exists_eq_left']
      refine s_ret1 ?_
      simp +decide only [p_fin_ret, resV, resOne, gv, Option.some.injEq, exists_eq_left']
      refine ⟨Chg.ext (Chg.ext hx2 c3 (by omega)) (Chg.put _ _ _) (by omega), q, X, a, sl, i, d, m, _, t, rfl, ?_, put_same _ _ _, ?_⟩
      · rw [put_next]; omega
      · cases hp : pRead s with
        | none =>
          rw [hp] at hm
          simp only at hm ⊢
          rcases hm with rfl | h
          · rfl
          · simp [h]
        | some r =>
          rw [hp] at hm
          obtain ⟨rfl, rfl, m1, m2, m3, m4, m5, m6⟩ := hm
          exact ⟨by simp, m1, m2, m3, m4, (m5.chg (Chg.put _ _ _) (.inl (by omega))).low (by omega), m6⟩

theorem iDepth_ok (lim : Nat) (s : ByteArray) (H : AHeap) (hl : lim ≤ H.next) : ACalls Try.prog lim n_impl_DepthOf [.string s] H fun v H' => v = .tuple #[.int .i64 (depF s), .bool (pRead s).isSome] ∧ Ext H H' := by
  refine is_impl_DepthOf.go rfl ?_
  unfold c_impl_DepthOf depF
  refine s_reg ?_
  simp only [o_pure, o_nil, POp.ev, Opd.ev, env0, gu, setD, List.set, Option.some.injEq, exists_eq_left']
  refine s_reg ?_
  simp only [o_pure, o_callF, POp.ev, Opd.ev, gv, setD, List.map, Option.some.injEq, exists_eq_left']
  refine (read_ok lim s H hl).mono ?_
  rintro _ H1 ⟨hx1, q, X, a, sl, i, d, m, f, t, rfl, hq, h1, hm⟩
  have k4 : H1.cell q 4 = some (.bool f) := cell_blk h1 4
  have k3 : H1.cell q 3 = some (.int .i64 m) := cell_blk h1 3
  simp only [o_cont, o_pure, o_nil, POp.ev, Opd.ev, gv, setD, List.set, Option.some.injEq, exists_eq_left']
  refine s_test ?_
  simp only [o_pure, o_nil, POp.ev, Opd.ev, gv, setD, Option.some.injEq, exists_eq_left', load1V, nilchkV, unV, fadV, Nat.zero_add, k4]
  cases hp : pRead s with
  | none =>
    rw [hp] at hm
    subst hm
    refine Test.true_ (s_reg ?_)
    simp only [o_pure, o_nil, POp.ev, Opd.ev, setD, List.set, Option.some.injEq, exists_eq_left']
    refine s_ret1 ?_
    simp +decide only [p_seq_ret, p_fin_ret, resV, resOne, resL, gv, Option.some.injEq, exists_eq_left', Option.bind_some, Option.map_some]
    exact ⟨rfl, hx1⟩
  | some r =>
    rw [hp] at hm
    obtain ⟨rfl, rfl, _⟩ := hm
    refine Test.false_ (s_skip1 ?_)
    simp +decide only [p_seq_normal]
    refine s_reg ?_
    simp only [o_pure, o_nil, POp.ev, Opd.ev, gv, setD, List.set, Option.some.injEq, exists_eq_left', load1V, nilchkV, fadV, Nat.zero_add, k3]
    refine s_ret1 ?_
    simp +decide only [p_fin_ret, resV, resOne, resL, gv, Option.some.injEq, exists_eq_left', Option.bind_some, Option.map_some]
    exact ⟨rfl, hx1⟩

/-! ### polynomials read -/
def polyF (s : ByteArray) : Option V := (pRead s).bind fun r => if r.1.large = false ∧ goodP r.2.ts = true then some r.2 else none
def PolyR (s : ByteArray) (H : AHeap) (v : Value) (H' : AHeap) : Prop :=
  Ext H H' ∧ ∃ (sl : Value) (den : Int) (ok : Bool), v = .tuple #[sl, .int .i64 den, .bool ok] ∧ (match polyF s with | some V => ok = true ∧ den = V.den ∧ SlF H' H.next sl V.ts | none => ok = false ∧ den = 0 ∧ sl = .slice none 0 0)
end Go.Proofs.Ytaimceodhhgnnaa

/- FnExactIsExpression, FnExactDepthOf, FnExactReadPoly: the laws' contracts; no condition. -/
namespace Go.Proofs.Ytaimceodhhgnnaa
open Go.Ab
set_option linter.unusedSimpArgs false
set_option linter.unusedVariables false

theorem lawDepthOf_ok (lim : Nat) (s : ByteArray) (H : AHeap) (hl : lim ≤ H.next) : ACalls Try.prog lim n_laws_FnExactDepthOf [.string s] H fun v _ => v = .bool true := by
  refine is_laws_FnExactDepthOf.go rfl ?_
  unfold c_laws_FnExactDepthOf
  refine s_reg ?_
  simp only [o_pure, o_nil, POp.ev, Opd.ev, env0, gu, setD, List.set, Option.some.injEq, exists_eq_left']
  refine s_test ?_
  simp only [o_pure, o_nil, POp.ev, Opd.ev, gv, setD, Option.some.injEq, exists_eq_left', binV, slenV, ne_eq, not_true_eq_false, if_false]
  refine Test.split (fun hbig => ?_) (fun hsm => ?_)
  · refine s_reg ?_
    simp only [o_pure, o_nil, POp.ev, Opd.ev, setD, List.set, Option.some.injEq, exists_eq_left']
    refine s_ret1 ?_
    simp +decide only [p_seq_ret, p_fin_ret, resV, resOne, gv, Option.some.injEq, exists_eq_left']
  · refine s_skip1 ?_
    simp +decide only [p_seq_normal]
    refine s_reg ?_
    simp only [o_pure, o_callF, POp.ev, Opd.ev, gv, setD, List.map, Option.some.injEq, exists_eq_left']
    refine (sDepth_ok lim s H hl).mono ?_
    rintro _ H1 ⟨rfl, hx1⟩
    have hn1 := hx1.next
    simp only [o_cont, o_pure, o_nil, POp.ev, Opd.ev, gv, setD, List.set, Option.some.injEq, exists_eq_left', extV, List.getElem?_toArray, List.getElem?_cons_zero, List.getElem?_cons_succ]
    refine s_reg ?_
    simp only [o_pure, o_callF, POp.ev, Opd.ev, gv, setD, List.map, Option.some.injEq, exists_eq_left']
    refine (iDepth_ok lim s H1 (by omega)).mono ?_
    rintro _ H2 ⟨rfl, hx2⟩
    simp only [o_cont, o_pure, o_nil, POp.ev, Opd.ev, gv, setD, List.set, Option.some.injEq, exists_eq_left', extV, List.getElem?_toArray, List.getElem?_cons_zero, List.getElem?_cons_succ]
    have hne : (depF s != depF s) = false := by simp
    refine s_test ?_
    simp only [o_pure, o_guard, gk_ff, o_nil, POp.ev, Opd.ev, gv, setD, Option.some.injEq, exists_eq_left', pickV, binV, boolEq, ne_eq, not_true_eq_false, if_false, if_true, beq_self_eq_true, Bool.not_true, hne]
    refine Test.false_ (s_skip1 ?_)
    simp +decide only [p_seq_normal]
    refine s_reg ?_
    simp only [o_pure, o_nil, POp.ev, Opd.ev, setD, List.set, Option.some.injEq, exists_eq_left']
    refine s_ret1 ?_
    simp +decide only [p_fin_ret, resV, resOne, gv, Option.some.injEq, exists_eq_left']

def polyL (s : ByteArray) : List Tm := match polyF s with | some V => V.ts | none => []
def polyD (s : ByteArray) : Int := match polyF s with | some V => V.den | none => 0
theorem PolyR.all {s : ByteArray} {H H' : AHeap} {v : Value} (h : PolyR s H v H') : Ext H H' ∧ ∃ sl, v = .tuple #[sl, .int .i64 (polyD s), .bool (polyF s).isSome] ∧ SlF H' H.next sl (polyL s) := by
  obtain ⟨hx, sl, den, ok, rfl, hm⟩ := h
  refine ⟨hx, sl, ?_⟩
  unfold polyD polyL
  cases hp : polyF s with
  | none =>
    rw [hp] at hm
    obtain ⟨rfl, rfl, rfl⟩ := hm
    exact ⟨rfl, SlF.nil _ _⟩
  | some V =>
    rw [hp] at hm
    obtain ⟨rfl, rfl, h⟩ := hm
    exact ⟨rfl, h⟩
end Go.Proofs.Ytaimceodhhgnnaa

/- The rows' arguments: what a law of this seat is handed, told of the abstract heap; no condition. -/
namespace Go.Proofs.Ytaimceodhhgnnaa
open Go.Ab
set_option linter.unusedSimpArgs false
set_option linter.unusedVariables false
set_option maxRecDepth 100000
theorem own : ownKnob Try.prog.godebug = none := by kernel_rfl
theorem laidOut : laidOutB Try.prog = true := by kernel_rfl
theorem shp1 {P : Program} {H : AHeap} {n a} {avs : List Value} (h : ShpAll P H n [a] avs) : ∃ v, avs = [v] ∧ ShpV P H n a v := by
  match avs, h with
  | [v], h => exact ⟨v, rfl, h.1⟩
end Go.Proofs.Ytaimceodhhgnnaa

/- The rows' arguments: texts; no condition. -/
namespace Go.Proofs.Ytaimceodhhgnnaa
open Go.Ab
set_option linter.unusedSimpArgs false
set_option linter.unusedVariables false
set_option maxRecDepth 100000
theorem shp_str {H : AHeap} {n : Nat} {v : Value} (h : ShpV Try.prog H (n + 1) 9 v) : ∃ s, v = .string s ∧ s.size ≤ reachBytes := by
  unfold ShpV Shp at h
  simp only [Try.underlying9] at h
  obtain ⟨s, h, h2⟩ := h
  cases h
  exact ⟨s, rfl, h2⟩
end Go.Proofs.Ytaimceodhhgnnaa
