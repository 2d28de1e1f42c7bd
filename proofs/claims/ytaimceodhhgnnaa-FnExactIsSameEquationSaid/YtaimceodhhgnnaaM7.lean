/- Parts of the proof of a statement of this seat: contracts of functions that the law calls, or the law's own row; no condition. -/
import Derived.Test.YtaimceodhhgnnaaAbArg
import Derived.Test.YtaimceodhhgnnaaRows
import Derived.WalkKit
import Derived.ProofKit
import Derived.OpenShut
import Derived.ShutString
import Derived.ChangeOld
import Derived.Below
import Derived.SizedLaws
import Derived.Test.YtaimceodhhgnnaaM6
/- FnExactIsSameEquation: primitive polynomials, lists of terms compared, and the law's contract; no condition. -/
namespace Go.Proofs.Ytaimceodhhgnnaa
open Go.Ab
set_option linter.unusedSimpArgs false
set_option linter.unusedVariables false

theorem eqL_tc (a b : Tm) : eqIV true 4 (tv a) (tv b) = some (.bool (!decide (a = b))) := by
  have e : eqL (tc a) (tc b) = some (a.c == b.c && (a.x == b.x && (a.y == b.y && (a.z == b.z && true)))) := rfl
  have e2 : eqIV true 4 (tv a) (tv b) = (eqL (tc a) (tc b)).map fun r => .bool (if true then !r else r) := rfl
  rw [e2, e]
  simp only [Option.map_some, if_true]
  congr 3
  rw [Bool.eq_iff_iff]
  simp only [Bool.and_eq_true, beq_iff_eq, decide_eq_true_eq, and_true]
  constructor
  · rintro ⟨h1, h2, h3, h4⟩
    cases a; cases b
    simp_all
  · rintro rfl
    exact ⟨rfl, rfl, rfl, rfl⟩
theorem list_eq_take {p q : List Tm} {i : Nat} (hi : i < p.length) (hl : p.length = q.length) (h : p.take i = q.take i) : p[i] = q[i] → p.take (i + 1) = q.take (i + 1) := by
  intro he
  rw [List.take_succ_eq_append_getElem hi, List.take_succ_eq_append_getElem (by omega), h, he]

theorem equalT_ok (lim : Nat) (s t : Value) (p q : List Tm) (H : AHeap) (hs : SlT H s p) (ht : SlT H t q) (hn : p.length ≤ 1000) (hm : q.length ≤ 1000) :
    ACalls Try.prog lim n_slices_Equal_S_impl_Term_impl_Term [s, t] H fun v H' => v = .bool (decide (p = q)) ∧ H' = H := by
  refine is_slices_Equal_S_impl_Term_impl_Term.go rfl ?_
  unfold c_slices_Equal_S_impl_Term_impl_Term
  refine s_reg ?_
  simp only [o_pure, o_nil, POp.ev, Opd.ev, env0, gu, setD, List.set, Option.some.injEq, exists_eq_left']
  have enb : ((p.length : Int) != (q.length : Int)) = !decide (p.length = q.length) := int_bne _ _
  refine s_test ?_
  simp only [o_pure, o_nil, POp.ev, Opd.ev, gv, setD, Option.some.injEq, exists_eq_left', binV, ne_eq, not_true_eq_false, if_false, hs.lenV, ht.lenV, enb]
  by_cases hl : p.length = q.length
  · simp only [hl, decide_true, Bool.not_true]
    refine Test.false_ (s_skip1 ?_)
    simp +decide only [p_seq_normal]
    refine s_assoc (s_reg ?_)
    simp only [o_pure, o_nil, POp.ev, Opd.ev, gv, setD, List.set, Option.some.injEq, exists_eq_left', hs.lenV]
    refine s_block ?_
    refine s_loop1 (fun k e' H' => ∃ (i : Nat) (x3 : Value), i + k = p.length ∧ p.take i = q.take i ∧ H' = H ∧ e' = [s, t, .bool false, x3, .int .i64 p.length, .int .i64 i]) p.length ⟨0, _, by omega, by simp, rfl, rfl⟩ ?_
    rintro k e' H' ⟨i, x3, hik, htk, rfl, rfl⟩
    refine s_test ?_
    simp only [o_pure, o_nil, POp.ev, Opd.ev, gv, setD, Option.some.injEq, exists_eq_left', binV, ne_eq, not_true_eq_false, if_false]
    refine Test.split (fun hlt => ?_) (fun hlt => ?_)
    · have hlt' : i < p.length := by simpa using hlt
      obtain ⟨b1, o1, h1, a1⟩ := hs.at hlt'
      obtain ⟨b2, o2, h2, a2⟩ := ht.at (show i < q.length by omega)
      refine s_skip1 ?_
      simp +decide only [p_seq_normal]
      refine s_block ?_
      refine s_reg ?_
      simp only [o_pure, o_nil, POp.ev, Opd.ev, gv, setD, List.set, Option.some.injEq, exists_eq_left']
      refine s_test1 ?_
      simp only [o_pure, o_nil, POp.ev, Opd.ev, gv, setD, Option.some.injEq, exists_eq_left', h1, h2, a1.all, a2.all, eqL_tc]
      by_cases he : p[i] = q[i]
      · simp only [he, decide_true, Bool.not_true]
        refine Test.false_ (s_skip1 ?_)
        simp +decide only [p_seq_normal, p_block_normal]
        refine s_reg1 ?_
        simp only [o_pure, o_nil, POp.ev, Opd.ev, gv, setD, List.set, Option.some.injEq, exists_eq_left', binV, ne_eq, not_true_eq_false, if_false, add1 (i := i) (by omega)]
        simp +decide only [p_seq_normal]
        exact Round.mk (k - 1) (by omega) ⟨i + 1, _, by omega, list_eq_take hlt' hl htk he, rfl, rfl⟩
      · simp only [he, decide_false, Bool.not_false]
        refine Test.true_ (s_reg ?_)
        simp only [o_pure, o_nil, POp.ev, Opd.ev, setD, List.set, Option.some.injEq, exists_eq_left']
        refine s_ret1 ?_
        simp +decide only [p_seq_ret, p_block_ret, p_fin_ret, resV, resOne, gv, Option.some.injEq, exists_eq_left']
        have : ¬ p = q := by
          rintro rfl
          exact he rfl
        simp [this]
    · have hge : i = p.length := by simp at hlt; omega
      subst hge
      refine s_exit1 ?_
      simp +decide only [p_seq_normal, p_seq_exit, p_block_exit, reduceIte]
      refine s_reg ?_
      simp only [o_pure, o_nil, POp.ev, Opd.ev, setD, List.set, Option.some.injEq, exists_eq_left']
      refine s_ret1 ?_
      simp +decide only [p_fin_ret, resV, resOne, gv, Option.some.injEq, exists_eq_left']
      have : p = q := by
        rw [List.take_length, hl, List.take_length] at htk
        exact htk
      simp [this]
  · simp only [hl, decide_false, Bool.not_false]
    refine Test.true_ (s_reg ?_)
    simp only [o_pure, o_nil, POp.ev, Opd.ev, setD, List.set, Option.some.injEq, exists_eq_left']
    refine s_ret1 ?_
    simp +decide only [p_seq_ret, p_fin_ret, resV, resOne, gv, Option.some.injEq, exists_eq_left']
    have : ¬ p = q := by rintro rfl; exact hl rfl
    simp [this]

theorem sameT_ok (lim : Nat) (s t : Value) (p q : List Tm) (H : AHeap) (hlim : lim ≤ H.next) (hs : SlT H s p) (ht : SlT H t q) (hn : p.length ≤ 1000) (hm : q.length ≤ 1000) :
    ACalls Try.prog lim n_spec_txSame [s, t] H fun v H' => v = .bool (decide (p = q)) ∧ Ext H H' := by
  refine is_spec_txSame.go rfl ?_
  unfold c_spec_txSame
  refine s_reg ?_
  simp only [o_pure, o_nil, POp.ev, Opd.ev, env0, gu, setD, List.set, Option.some.injEq, exists_eq_left']
  have enb : ((p.length : Int) != (q.length : Int)) = !decide (p.length = q.length) := int_bne _ _
  refine s_test ?_
  simp only [o_pure, o_nil, POp.ev, Opd.ev, gv, setD, Option.some.injEq, exists_eq_left', binV, ne_eq, not_true_eq_false, if_false, hs.lenV, ht.lenV, enb]
  by_cases hl : p.length = q.length
  · simp only [hl, decide_true, Bool.not_true]
    refine Test.false_ (s_skip1 ?_)
    simp +decide only [p_seq_normal]
    refine s_assoc (s_reg ?_)
    simp only [o_pure, o_nil, POp.ev, Opd.ev, gv, setD, List.set, Option.some.injEq, exists_eq_left', hs.lenV]
    refine s_block ?_
    refine s_loop1 (fun k e' H' => ∃ (i : Nat) (x3 x4 : Value), i + k = p.length ∧ p.take i = q.take i ∧ Ext H H' ∧ e' = [s, t, .bool false, x3, x4, s, .int .i64 p.length, .int .i64 i]) p.length ⟨0, _, _, by omega, by simp, Ext.refl _, rfl⟩ ?_
    rintro k e' H1 ⟨i, x3, x4, hik, htk, hx, rfl⟩
    have hn1 := hx.next
    refine s_test ?_
    simp only [o_pure, o_nil, POp.ev, Opd.ev, gv, setD, Option.some.injEq, exists_eq_left', binV, ne_eq, not_true_eq_false, if_false]
    refine Test.split (fun hlt => ?_) (fun hlt => ?_)
    · have hlt' : i < p.length := by simpa using hlt
      obtain ⟨b1, o1, h1, a1⟩ := (hs.ext hx).at hlt'
      refine s_skip1 ?_
      simp +decide only [p_seq_normal]
      refine s_block ?_
      refine s_reg ?_
      simp only [o_pure, o_eff, o_nil, POp.ev, Opd.ev, EOp.ev, gv, setD, List.set, Option.some.injEq, exists_eq_left', h1, a1.all, store4_new (lim := lim) (H := H1) (by omega)]
      have hB := BoxT.mk' H1 p[i]
      generalize H1.alloc (tc p[i]) = H2 at hB ⊢
      generalize H1.next = r at hB
      obtain ⟨b2, o2, h2, a2⟩ := ((ht.ext hx).ext hB.ext).at (show i < q.length by omega)
      refine s_test1 ?_
      simp only [o_pure, o_nil, POp.ev, Opd.ev, gv, setD, Option.some.injEq, exists_eq_left', hB.all, h2, a2.all, eqL_tc]
      by_cases he : p[i] = q[i]
      · simp only [he, decide_true, Bool.not_true]
        refine Test.false_ (s_skip1 ?_)
        simp +decide only [p_seq_normal, p_block_normal]
        refine s_reg1 ?_
        simp only [o_pure, o_nil, POp.ev, Opd.ev, gv, setD, List.set, Option.some.injEq, exists_eq_left', binV, ne_eq, not_true_eq_false, if_false, add1 (i := i) (by omega)]
        simp +decide only [p_seq_normal]
        exact Round.mk (k - 1) (by omega) ⟨i + 1, _, _, by omega, list_eq_take hlt' hl htk he, hx.trans hB.ext, rfl⟩
      · simp only [he, decide_false, Bool.not_false]
        refine Test.true_ (s_reg ?_)
        simp only [o_pure, o_nil, POp.ev, Opd.ev, setD, List.set, Option.some.injEq, exists_eq_left']
        refine s_ret1 ?_
        simp +decide only [p_seq_ret, p_block_ret, p_fin_ret, resV, resOne, gv, Option.some.injEq, exists_eq_left']
        have : ¬ p = q := by
          rintro rfl
          exact he rfl
        simp [this, hx.trans hB.ext]
    · have hge : i = p.length := by simp at hlt; omega
      subst hge
      refine s_exit1 ?_
      simp +decide only [p_seq_normal, p_seq_exit, p_block_exit, reduceIte]
      refine s_reg ?_
      simp only [o_pure, o_nil, POp.ev, Opd.ev, setD, List.set, Option.some.injEq, exists_eq_left']
      refine s_ret1 ?_
      simp +decide only [p_fin_ret, resV, resOne, gv, Option.some.injEq, exists_eq_left']
      have : p = q := by
        rw [List.take_length, hl, List.take_length] at htk
        exact htk
      simp [this, hx]
  · simp only [hl, decide_false, Bool.not_false]
    refine Test.true_ (s_reg ?_)
    simp only [o_pure, o_nil, POp.ev, Opd.ev, setD, List.set, Option.some.injEq, exists_eq_left']
    refine s_ret1 ?_
    simp +decide only [p_seq_ret, p_fin_ret, resV, resOne, gv, Option.some.injEq, exists_eq_left']
    have : ¬ p = q := by rintro rfl; exact hl rfl
    simp [this, Ext.refl]

/-! ### primitive polynomials -/
def lastNeg (p : List Tm) : Bool := match p.getLast? with | some t => decide (t.c < 0) | none => false
def primG (p : List Tm) : Int := if lastNeg p then -gcdL 0 p else gcdL 0 p
def primF (p : List Tm) : List Tm := p.map (divT (primG p))
theorem lastNeg_at {p : List Tm} {n : Nat} (h : p.length = n + 1) : lastNeg p = decide ((p[n]'(by omega)).c < 0) := by
  have e : p.getLast? = some (p[n]'(by omega)) := by
    rw [List.getLast?_eq_getElem?]
    have e2 : p.length - 1 = n := by omega
    rw [e2, List.getElem?_eq_getElem (by omega)]
  unfold lastNeg
  rw [e]
structure Sml (p : List Tm) : Prop where
  ok : ∀ t ∈ p, t.c ≠ 0 ∧ -1000 ≤ t.c ∧ t.c ≤ 1000
  len : p.length ≤ 20
theorem Sml.step {p : List Tm} (h : Sml p) {i : Nat} (hi : i < p.length) {g : Int} (h0 : 0 ≤ g) : 0 < (Int.gcd g p[i].c : Int) ∧ (Int.gcd g p[i].c : Int) ≤ 1000 := by
  have h1 := h.ok _ (List.getElem_mem hi)
  have h2 : Int.gcd g p[i].c ≠ 0 := by
    intro e
    have := (Int.gcd_eq_zero_iff.1 e).2
    exact h1.1 this
  refine ⟨by omega, ?_⟩
  have h3 : (Int.gcd g p[i].c : Int) ∣ p[i].c := Int.gcd_dvd_right ..
  have h4 := Int.le_of_dvd (b := (p[i].c.natAbs : Int)) (by omega) (Int.dvd_natAbs.2 h3)
  omega
theorem small_tdiv {c g : Int} (hc : -1000 ≤ c ∧ c ≤ 1000) : -1000 ≤ c.tdiv g ∧ c.tdiv g ≤ 1000 := by
  have h : (c.tdiv g).natAbs = c.natAbs / g.natAbs := Int.natAbs_tdiv c g
  have h2 := Nat.div_le_self c.natAbs g.natAbs
  omega

theorem sPrim_ok (lim : Nat) (s : Value) (p : List Tm) (H : AHeap) (hl : lim ≤ H.next) (hs : SlT H s p) (hp : Sml p) :
    ACalls Try.prog lim n_spec_txPrimitive [s] H fun v H' => SlF H' H.next v (primF p) ∧ Ext H H' := by
  refine is_spec_txPrimitive.go rfl ?_
  unfold c_spec_txPrimitive
  have hlen := hp.len
  refine s_reg ?_
  simp only [o_pure, o_nil, POp.ev, Opd.ev, env0, gu, setD, List.set, Option.some.injEq, exists_eq_left']
  refine s_reg ?_
  simp only [o_pure, o_nil, POp.ev, Opd.ev, setD, List.set, Option.some.injEq, exists_eq_left']
  refine s_assoc (s_reg ?_)
  simp only [o_pure, o_nil, POp.ev, Opd.ev, gv, setD, List.set, Option.some.injEq, exists_eq_left', hs.lenV]
  refine s_block ?_
  refine s_loop1 (fun k e' H' => ∃ (i : Nat) (g : Int) (x3 x4 x5 y9 y10 y11 : Value), i + k = p.length ∧ gcdL 0 p = gcdL g (p.drop i) ∧ (0 ≤ g ∧ g ≤ 1000) ∧ (0 < i → 0 < g) ∧ Ext H H' ∧
    e' = [s, .slice none 0 0, .int .i64 g, x3, x4, x5, s, .int .i64 p.length, .int .i64 i, y9, y10, y11]) p.length ⟨0, 0, _, _, _, _, _, _, by omega, rfl, by omega, by omega, Ext.refl _, rfl⟩ ?_
  rintro k e' H1 ⟨i, g, x3, x4, x5, y9, y10, y11, hik, hall, hg, hg0, hx, rfl⟩
  have hn1 := hx.next
  refine s_test ?_
  simp only [o_pure, o_nil, POp.ev, Opd.ev, gv, setD, Option.some.injEq, exists_eq_left', binV, ne_eq, not_true_eq_false, if_false]
  refine Test.split (fun hlt => ?_) (fun hlt => ?_)
  · have hlt' : i < p.length := by simpa using hlt
    obtain ⟨b1, o1, h1, hat⟩ := (hs.ext hx).at hlt'
    have hci := hp.ok _ (List.getElem_mem hlt')
    have hst := hp.step hlt' hg.1
    rw [List.drop_eq_getElem_cons hlt', gcdL_cons] at hall
    refine s_skip1 ?_
    simp +decide only [p_seq_normal]
    refine s_block ?_
    refine s_reg ?_
    simp only [o_pure, o_eff, o_nil, POp.ev, Opd.ev, EOp.ev, gv, setD, List.set, Option.some.injEq, exists_eq_left', h1, hat.all, store4_new (lim := lim) (H := H1) (by omega)]
    have hB := BoxT.mk' H1 p[i]
    generalize H1.alloc (tc p[i]) = H2 at hB ⊢
    generalize H1.next = r at hB
    refine s_reg1 ?_
    simp only [o_pure, o_callF, POp.ev, Opd.ev, gv, setD, List.map, Option.some.injEq, exists_eq_left', load1V, fadV, Nat.zero_add, hB.c0]
    refine (l1Abs_ok _ _ _ (by omega)).eq ?_
    simp only [o_cont, o_pure, o_callF, POp.ev, Opd.ev, gv, setD, List.map, Option.some.injEq, exists_eq_left']
    refine (txCommon_ok _ _ _ _ (by omega) (by omega)).eq ?_
    simp only [o_cont, o_pure, o_nil, POp.ev, Opd.ev, gv, setD, List.set, Option.some.injEq, exists_eq_left']
    simp +decide only [p_seq_normal, p_block_normal]
    refine s_reg1 ?_
    simp only [o_pure, o_nil, POp.ev, Opd.ev, gv, setD, List.set, Option.some.injEq, exists_eq_left', binV, ne_eq, not_true_eq_false, if_false, add1 (i := i) (by omega)]
    simp +decide only [p_seq_normal]
    have e1 : Int.gcd (p[i].c.natAbs : Int) g = Int.gcd g p[i].c := by rw [Int.gcd_comm]; simp [Int.gcd]
    rw [e1]
    exact Round.mk (k - 1) (by omega) ⟨i + 1, _, _, _, _, _, _, _, by omega, hall, by omega, fun _ => hst.1, hx.trans hB.ext, rfl⟩
  · have hge : i = p.length := by simp at hlt; omega
    subst hge
    rw [List.drop_length] at hall
    have hG : gcdL 0 p = g := hall
    refine s_exit1 ?_
    simp +decide only [p_seq_normal, p_seq_exit, p_block_exit, reduceIte]
    refine s_reg ?_
    simp only [o_pure, o_nil, POp.ev, Opd.ev, setD, List.set, Option.some.injEq, exists_eq_left']
    refine s_assoc (s_reg ?_)
    simp only [o_pure, o_nil, POp.ev, Opd.ev, gv, setD, List.set, Option.some.injEq, exists_eq_left', hs.lenV]
    refine s_block ?_
    refine s_loop1 (fun k e' H' => ∃ (i b : Nat) (so x3 x5 y6 y7 y8 : Value), i + k = p.length ∧ VecT H' b so ((p.take i).map (divT (primG p))) ∧ H.next ≤ b ∧ Ext H H' ∧
      e' = [s, .slice none 0 0, .int .i64 g, x3, so, x5, y6, y7, y8, s, .int .i64 p.length, .int .i64 i]) p.length ⟨0, H.next, _, _, _, _, _, _, by omega, vecT_nil _ _, Nat.le_refl _, hx, rfl⟩ ?_
    clear hx hn1 H1
    rintro k e' H1 ⟨i, b, so, x3, x5, y6, y7, y8, hik, hv, hb, hx, rfl⟩
    have hn1 := hx.next
    refine s_test ?_
    simp only [o_pure, o_nil, POp.ev, Opd.ev, gv, setD, Option.some.injEq, exists_eq_left', binV, ne_eq, not_true_eq_false, if_false]
    refine Test.split (fun hlt => ?_) (fun hlt => ?_)
    · have hlt' : i < p.length := by simpa using hlt
      obtain ⟨b1, o1, h1, hat⟩ := (hs.ext hx).at hlt'
      have hci := (hp.ok _ (List.getElem_mem hlt')).2
      have hgz : (g = 0) = False := by simp; have := hg0 (by omega); omega
      have htr := small_tdiv (g := g) hci
      have hwc : IntKind.i64.wrap (p[i].c.tdiv g) = p[i].c.tdiv g := W_of_in (by unfold inR; omega)
      have hwn : IntKind.i64.wrap (0 - p[i].c.tdiv g) = -p[i].c.tdiv g := by rw [IntKind.wrap_i64]; omega
      obtain ⟨n, hn⟩ : ∃ n, p.length = n + 1 := ⟨p.length - 1, by omega⟩
      have hln := lastNeg_at hn
      have w1 : IntKind.i64.wrap ((p.length : Int) - 1) = (n : Int) := by rw [IntKind.wrap_i64]; omega
      refine s_skip1 ?_
      simp +decide only [p_seq_normal]
      refine s_block ?_
      refine s_reg ?_
      simp only [o_pure, o_eff, o_nil, POp.ev, Opd.ev, EOp.ev, gv, setD, List.set, Option.some.injEq, exists_eq_left', h1, hat.all, store4_new (lim := lim) (H := H1) (by omega)]
      have hB := BoxT.mk' H1 p[i]
      generalize H1.alloc (tc p[i]) = H2 at hB ⊢
      generalize hr : H1.next = r at hB
      obtain ⟨cs4, t4, hB4⟩ := hB.put0 (lim := lim) (by omega) (p[i].c.tdiv g)
      refine s_reg ?_
      simp only [o_pure, o_eff, o_nil, POp.ev, Opd.ev, EOp.ev, gv, setD, Option.some.injEq, exists_eq_left', binV, load1V, fadV, ne_eq, not_true_eq_false, if_false, Nat.zero_add, hB.c0, hgz, hwc, t4]
      generalize H2.put r cs4 = H4 at hB4 ⊢
      clear t4 hB cs4 H2
      obtain ⟨b2, o2, h2, a2⟩ := ((hs.ext hx).ext hB4.ext).at (show n < p.length by omega)
      -- the sign
      refine s_cut (fun e' H' => BoxT H1 H' r (divT (primG p) p[i]) ∧ e' = [s, .slice none 0 0, .int .i64 g, x3, so, .pointer (some ⟨r, 0, none⟩), y6, y7, y8, s, .int .i64 p.length, .int .i64 i]) ?_ ?_
      · refine s_test1 ?_
        simp only [o_pure, o_nil, POp.ev, Opd.ev, gv, setD, Option.some.injEq, exists_eq_left', binV, load1V, fadV, ne_eq, not_true_eq_false, if_false, Nat.add_zero, hs.lenV, w1, h2, a2.c]
        refine Test.split (fun hneg => ?_) (fun hneg => ?_)
        · rw [hneg] at hln
          obtain ⟨cs5, t5, hB5⟩ := hB4.put0 (lim := lim) (by omega) (-p[i].c.tdiv g)
          refine s_reg1 ?_
          simp only [o_pure, o_eff, o_nil, POp.ev, Opd.ev, EOp.ev, gv, setD, Option.some.injEq, exists_eq_left', load1V, unV, fadV, Nat.zero_add, hB4.c0, hwn, t5]
          simp +decide only [p_seq_normal]
          refine ⟨?_, trivial⟩
          have : divT (primG p) p[i] = { { p[i] with c := p[i].c.tdiv g } with c := -p[i].c.tdiv g } := by
            unfold divT primG
            rw [hln, if_pos rfl, hG, Int.tdiv_neg]
          rw [this]
          exact hB5
        · rw [hneg] at hln
          refine s_skip1 ?_
          simp +decide only [p_seq_normal]
          refine ⟨?_, trivial⟩
          have : divT (primG p) p[i] = { p[i] with c := p[i].c.tdiv g } := by
            unfold divT primG
            rw [hln, if_neg (by simp), hG]
          rw [this]
          exact hB4
      · rintro e' H5 ⟨hB5, rfl⟩
        have hall5 : loadNV H5 4 (.pointer (some ⟨r, 0, none⟩)) = some (tv (divT (primG p) p[i])) := hB5.all
        have hbs : ∀ t : Tm, bsliceH H5 1 [.int .i64 0, .int .i64 0, .int .i64 0, .int .i64 0] [(0, 4, tv t)] = some (.slice (some ⟨H5.next, 0, some 0⟩) 1 1, H5.alloc (tc t)) := fun t => rfl
        have hx5 := hB5.ext
        have hn5 := hx5.next
        obtain ⟨v', H6, b', e6, hv6, hb6', hlt6, c6⟩ := pushT (lim := lim) (VecT.ext hv hx5) (divT (primG p) p[i]) (by omega) (by rw [List.length_map, List.length_take]; omega)
        refine s_reg1 ?_
        simp only [o_pure, o_eff, o_nil, POp.ev, Opd.ev, EOp.ev, gv, setD, List.set, List.map, Option.some.injEq, exists_eq_left', hall5, hbs, e6]
        simp +decide only [p_seq_normal, p_block_normal]
        refine s_reg1 ?_
        simp only [o_pure, o_nil, POp.ev, Opd.ev, gv, setD, List.set, Option.some.injEq, exists_eq_left', binV, ne_eq, not_true_eq_false, if_false, add1 (i := i) (by omega)]
        simp +decide only [p_seq_normal]
        refine Round.mk (k - 1) (by omega) ⟨i + 1, b', _, _, _, _, _, _, by omega, ?_, by rcases hb6' with h | h <;> omega, Chg.ext (hx.trans hx5) c6 hb, rfl⟩
        rw [List.take_succ_eq_append_getElem hlt', List.map_append]
        exact hv6
    · have hge : i = p.length := by simp at hlt; omega
      subst hge
      rw [List.take_length] at hv
      refine s_exit1 ?_
      simp +decide only [p_seq_normal, p_seq_exit, p_block_exit, reduceIte]
      refine s_reg ?_
      simp only [o_pure, o_nil, POp.ev, Opd.ev, gv, setD, List.set, Option.some.injEq, exists_eq_left']
      refine s_ret1 ?_
      simp +decide only [p_fin_ret, resV, resOne, gv, Option.some.injEq, exists_eq_left']
      exact ⟨SlF.of hv hb, hx⟩

theorem iPrim_ok (lim : Nat) (s : Value) (p : List Tm) (H : AHeap) (hl : lim ≤ H.next) (hs : SlT H s p) (hp : Sml p) :
    ACalls Try.prog lim n_impl_primitivePoly [s] H fun v H' => SlF H' H.next v (primF p) ∧ Ext H H' := by
  refine is_impl_primitivePoly.go rfl ?_
  unfold c_impl_primitivePoly
  have hlen := hp.len
  refine s_reg ?_
  simp only [o_pure, o_nil, POp.ev, Opd.ev, env0, gu, setD, List.set, Option.some.injEq, exists_eq_left']
  refine s_reg ?_
  simp only [o_pure, o_nil, POp.ev, Opd.ev, setD, List.set, Option.some.injEq, exists_eq_left']
  refine s_assoc (s_reg ?_)
  simp only [o_pure, o_nil, POp.ev, Opd.ev, gv, setD, List.set, Option.some.injEq, exists_eq_left', hs.lenV]
  refine s_block ?_
  refine s_loop1 (fun k e' H' => ∃ (i : Nat) (g : Int) (x3 x4 x5 x6 y10 y11 y12 : Value), i + k = p.length ∧ gcdL 0 p = gcdL g (p.drop i) ∧ (0 ≤ g ∧ g ≤ 1000) ∧ (0 < i → 0 < g) ∧ Ext H H' ∧
    e' = [s, .slice none 0 0, .int .i64 g, x3, x4, x5, x6, s, .int .i64 p.length, .int .i64 i, y10, y11, y12]) p.length ⟨0, 0, _, _, _, _, _, _, _, by omega, rfl, by omega, by omega, Ext.refl _, rfl⟩ ?_
  rintro k e' H1 ⟨i, g, x3, x4, x5, x6, y10, y11, y12, hik, hall, hg, hg0, hx, rfl⟩
  have hn1 := hx.next
  refine s_test ?_
  simp only [o_pure, o_nil, POp.ev, Opd.ev, gv, setD, Option.some.injEq, exists_eq_left', binV, ne_eq, not_true_eq_false, if_false]
  refine Test.split (fun hlt => ?_) (fun hlt => ?_)
  · have hlt' : i < p.length := by simpa using hlt
    obtain ⟨b1, o1, h1, hat⟩ := (hs.ext hx).at hlt'
    have hci := hp.ok _ (List.getElem_mem hlt')
    have hst := hp.step hlt' hg.1
    rw [List.drop_eq_getElem_cons hlt', gcdL_cons] at hall
    refine s_skip1 ?_
    simp +decide only [p_seq_normal]
    refine s_block ?_
    refine s_reg ?_
    simp only [o_pure, o_eff, o_nil, POp.ev, Opd.ev, EOp.ev, gv, setD, List.set, Option.some.injEq, exists_eq_left', h1, hat.all, store4_new (lim := lim) (H := H1) (by omega)]
    have hB := BoxT.mk' H1 p[i]
    generalize H1.alloc (tc p[i]) = H2 at hB ⊢
    generalize H1.next = r at hB
    refine s_reg1 ?_
    simp only [o_pure, o_callF, POp.ev, Opd.ev, gv, setD, List.map, Option.some.injEq, exists_eq_left', load1V, fadV, Nat.zero_add, hB.c0]
    refine (gcd_ok _ _ _ _ (by omega) (by omega)).eq ?_
    simp only [o_cont, o_pure, o_nil, POp.ev, Opd.ev, gv, setD, List.set, Option.some.injEq, exists_eq_left']
    simp +decide only [p_seq_normal, p_block_normal]
    refine s_reg1 ?_
    simp only [o_pure, o_nil, POp.ev, Opd.ev, gv, setD, List.set, Option.some.injEq, exists_eq_left', binV, ne_eq, not_true_eq_false, if_false, add1 (i := i) (by omega)]
    simp +decide only [p_seq_normal]
    exact Round.mk (k - 1) (by omega) ⟨i + 1, _, _, _, _, _, _, _, _, by omega, hall, by omega, fun _ => hst.1, hx.trans hB.ext, rfl⟩
  · have hge : i = p.length := by simp at hlt; omega
    subst hge
    rw [List.drop_length] at hall
    have hG : gcdL 0 p = g := hall
    refine s_exit1 ?_
    simp +decide only [p_seq_normal, p_seq_exit, p_block_exit, reduceIte]
    refine s_cut (fun e' H' => H' = H1 ∧ e' = [s, .slice none 0 0, .int .i64 (primG p), x3, .int .i64 p.length, x5, x6, s, .int .i64 p.length, .int .i64 p.length, y10, y11, y12]) ?_ ?_
    · refine s_reg ?_
      simp only [o_pure, o_nil, POp.ev, Opd.ev, gv, setD, List.set, Option.some.injEq, exists_eq_left', hs.lenV]
      refine s_test1_same (lastNeg p) ?_ (fun hneg => ?_) (fun hneg => ?_)
      · by_cases hp0 : p.length = 0
        · have e0 : decide ((p.length : Int) > 0) = false := decide_eq_false (by omega)
          have e1 : lastNeg p = false := by
            have : p = [] := List.length_eq_zero_iff.1 hp0
            subst this; rfl
          simp only [o_pure, o_guard, gk_ft, o_nil, POp.ev, Opd.ev, gv, setD, Option.some.injEq, exists_eq_left', pickV, binV, ne_eq, not_true_eq_false, if_false, e0]
          simp [e1]
        · obtain ⟨n, hn⟩ : ∃ n, p.length = n + 1 := ⟨p.length - 1, by omega⟩
          have hln := lastNeg_at hn
          have w1 : IntKind.i64.wrap ((p.length : Int) - 1) = (n : Int) := by rw [IntKind.wrap_i64]; omega
          obtain ⟨b2, o2, h2, a2⟩ := (hs.ext hx).at (show n < p.length by omega)
          have e0 : decide ((p.length : Int) > 0) = true := decide_eq_true (by omega)
          simp only [o_pure, o_guard, gk_tt, o_nil, POp.ev, Opd.ev, gv, setD, Option.some.injEq, exists_eq_left', pickV, binV, load1V, fadV, ne_eq, not_true_eq_false, if_false, e0, Nat.add_zero, w1, h2, a2.c]
          simp [hln]
      · refine s_reg1 ?_
        have hwn : IntKind.i64.wrap (0 - g) = -g := by rw [IntKind.wrap_i64]; omega
        simp only [o_pure, o_nil, POp.ev, Opd.ev, gv, setD, List.set, Option.some.injEq, exists_eq_left', unV, hwn]
        simp +decide only [p_seq_normal]
        unfold primG
        rw [hneg, if_pos rfl, hG]
        exact ⟨trivial, rfl⟩
      · refine s_skip1 ?_
        simp +decide only [p_seq_normal]
        unfold primG
        rw [hneg, if_neg (by simp), hG]
        exact ⟨trivial, rfl⟩
    rintro e' H' ⟨rfl, rfl⟩
    have hPb : -1000 ≤ primG p ∧ primG p ≤ 1000 := by
      unfold primG
      rw [hG]
      split <;> omega
    have hPz : 0 < p.length → primG p ≠ 0 := by
      intro h0
      have := hg0 h0
      unfold primG
      rw [hG]
      split <;> omega
    refine s_reg ?_
    simp only [o_pure, o_nil, POp.ev, Opd.ev, setD, List.set, Option.some.injEq, exists_eq_left']
    refine s_assoc (s_reg ?_)
    simp only [o_pure, o_nil, POp.ev, Opd.ev, gv, setD, List.set, Option.some.injEq, exists_eq_left', hs.lenV]
    refine s_block ?_
    refine s_loop1 (fun k e' H' => ∃ (i b : Nat) (so x3 x6 y7 y8 y9 : Value), i + k = p.length ∧ VecT H' b so ((p.take i).map (divT (primG p))) ∧ H.next ≤ b ∧ Ext H H' ∧
      e' = [s, .slice none 0 0, .int .i64 (primG p), x3, .int .i64 p.length, so, x6, y7, y8, y9, s, .int .i64 p.length, .int .i64 i]) p.length ⟨0, H.next, _, _, _, _, _, _, by omega, vecT_nil _ _, Nat.le_refl _, hx, rfl⟩ ?_
    clear hx hn1
    rintro k e' H1 ⟨i, b, so, x3, x6, y7, y8, y9, hik, hv, hb, hx, rfl⟩
    have hn1 := hx.next
    refine s_test ?_
    simp only [o_pure, o_nil, POp.ev, Opd.ev, gv, setD, Option.some.injEq, exists_eq_left', binV, ne_eq, not_true_eq_false, if_false]
    refine Test.split (fun hlt => ?_) (fun hlt => ?_)
    · have hlt' : i < p.length := by simpa using hlt
      obtain ⟨b1, o1, h1, hat⟩ := (hs.ext hx).at hlt'
      have hci := (hp.ok _ (List.getElem_mem hlt')).2
      have hgz : (primG p = 0) = False := by simp; exact hPz (by omega)
      have htr := small_tdiv (g := primG p) hci
      have hwc : IntKind.i64.wrap (p[i].c.tdiv (primG p)) = p[i].c.tdiv (primG p) := W_of_in (by unfold inR; omega)
      refine s_skip1 ?_
      simp +decide only [p_seq_normal]
      refine s_block ?_
      refine s_reg ?_
      simp only [o_pure, o_eff, o_nil, POp.ev, Opd.ev, EOp.ev, gv, setD, List.set, Option.some.injEq, exists_eq_left', h1, hat.all, store4_new (lim := lim) (H := H1) (by omega)]
      have hB := BoxT.mk' H1 p[i]
      generalize H1.alloc (tc p[i]) = H2 at hB ⊢
      generalize hr : H1.next = r at hB
      obtain ⟨cs4, t4, hB4⟩ := hB.put0 (lim := lim) (by omega) (p[i].c.tdiv (primG p))
      refine s_reg ?_
      simp only [o_pure, o_eff, o_nil, POp.ev, Opd.ev, EOp.ev, gv, setD, Option.some.injEq, exists_eq_left', binV, load1V, fadV, ne_eq, not_true_eq_false, if_false, Nat.zero_add, hB.c0, hgz, hwc, t4]
      generalize H2.put r cs4 = H5 at hB4 ⊢
      clear t4 hB cs4 H2
      have hall5 : loadNV H5 4 (.pointer (some ⟨r, 0, none⟩)) = some (tv (divT (primG p) p[i])) := hB4.all
      have hbs : ∀ t : Tm, bsliceH H5 1 [.int .i64 0, .int .i64 0, .int .i64 0, .int .i64 0] [(0, 4, tv t)] = some (.slice (some ⟨H5.next, 0, some 0⟩) 1 1, H5.alloc (tc t)) := fun t => rfl
      have hx5 := hB4.ext
      have hn5 := hx5.next
      obtain ⟨v', H6, b', e6, hv6, hb6', hlt6, c6⟩ := pushT (lim := lim) (VecT.ext hv hx5) (divT (primG p) p[i]) (by omega) (by rw [List.length_map, List.length_take]; omega)
      refine s_reg1 ?_
      simp only [o_pure, o_eff, o_nil, POp.ev, Opd.ev, EOp.ev, gv, setD, List.set, List.map, Option.some.injEq, exists_eq_left', hall5, hbs, e6]
      simp +decide only [p_seq_normal, p_block_normal]
      refine s_reg1 ?_
      simp only [o_pure, o_nil, POp.ev, Opd.ev, gv, setD, List.set, Option.some.injEq, exists_eq_left', binV, ne_eq, not_true_eq_false, if_false, add1 (i := i) (by omega)]
      simp +decide only [p_seq_normal]
      refine Round.mk (k - 1) (by omega) ⟨i + 1, b', _, _, _, _, _, _, by omega, ?_, by rcases hb6' with h | h <;> omega, Chg.ext (hx.trans hx5) c6 hb, rfl⟩
      rw [List.take_succ_eq_append_getElem hlt', List.map_append]
      exact hv6
    · have hge : i = p.length := by simp at hlt; omega
      subst hge
      rw [List.take_length] at hv
      refine s_exit1 ?_
      simp +decide only [p_seq_normal, p_seq_exit, p_block_exit, reduceIte]
      refine s_reg ?_
      simp only [o_pure, o_nil, POp.ev, Opd.ev, gv, setD, List.set, Option.some.injEq, exists_eq_left']
      refine s_ret1 ?_
      simp +decide only [p_fin_ret, resV, resOne, gv, Option.some.injEq, exists_eq_left']
      exact ⟨SlF.of hv hb, hx⟩

/-! ### the same equation -/
theorem polyL_sml {s : ByteArray} : Sml (polyL s) := by
  refine ⟨?_, polyL_len s⟩
  unfold polyL polyF
  cases hp : pRead s with
  | none => intro t ht; simp at ht
  | some r =>
    simp only [Option.bind_some]
    by_cases h : r.1.large = false ∧ goodP r.2.ts = true
    · rw [if_pos h]
      have hg := h.2
      unfold goodP at hg
      simp only [Bool.and_eq_true] at hg
      intro t ht
      have h1 := (goodF_all hg.1).1 t ht
      have h2 := okTm_b h1.1
      exact ⟨h1.2, h2.1, h2.2.1⟩
    · rw [if_neg h]; intro t ht; simp at ht
theorem primF_len (p : List Tm) : (primF p).length = p.length := by unfold primF; simp
def sameB (s t : ByteArray) : Bool := ((polyF s).isSome && (polyF t).isSome) && decide (primF (polyL s) = primF (polyL t))

theorem sSame_ok (lim : Nat) (s t : ByteArray) (H : AHeap) (hl : lim ≤ H.next) : ACalls Try.prog lim n_spec_IsSameEquation [.string s, .string t] H fun v H' => v = .tuple #[.bool (sameB s t), .bool ((polyF s).isSome && (polyF t).isSome)] ∧ Ext H H' := by
  refine is_spec_IsSameEquation.go rfl ?_
  unfold c_spec_IsSameEquation sameB
  refine s_reg ?_
  simp only [o_pure, o_nil, POp.ev, Opd.ev, env0, gu, setD, List.set, Option.some.injEq, exists_eq_left']
  refine s_reg ?_
  simp only [o_pure, o_callF, POp.ev, Opd.ev, gv, setD, List.map, Option.some.injEq, exists_eq_left']
  refine (sPoly_ok lim s H hl).mono ?_
  intro _ H1 hr
  obtain ⟨hx1, p, rfl, fp⟩ := hr.all
  have hn1 := hx1.next
  simp only [o_cont, o_pure, o_nil, POp.ev, Opd.ev, gv, setD, List.set, Option.some.injEq, exists_eq_left', extV, List.getElem?_toArray, List.getElem?_cons_zero, List.getElem?_cons_succ]
  refine s_reg ?_
  simp only [o_pure, o_callF, POp.ev, Opd.ev, gv, setD, List.map, Option.some.injEq, exists_eq_left']
  refine (sPoly_ok lim t H1 (by omega)).mono ?_
  intro _ H2 hr
  obtain ⟨hx2, q, rfl, fq⟩ := hr.all
  have hn2 := hx2.next
  simp only [o_cont, o_pure, o_nil, POp.ev, Opd.ev, gv, setD, List.set, Option.some.injEq, exists_eq_left', extV, List.getElem?_toArray, List.getElem?_cons_zero, List.getElem?_cons_succ]
  have hx12 := hx1.trans hx2
  refine s_test ?_
  cases h1 : (polyF s).isSome
  · simp only [o_pure, o_guard, gk_tf, o_nil, POp.ev, Opd.ev, gv, setD, Option.some.injEq, exists_eq_left', pickV, unV, Bool.not_false]
    refine Test.true_ (s_reg ?_)
    simp only [o_pure, o_nil, POp.ev, Opd.ev, setD, List.set, Option.some.injEq, exists_eq_left']
    refine s_ret1 ?_
    simp +decide only [p_seq_ret, p_fin_ret, resV, resOne, resL, gv, Option.some.injEq, exists_eq_left', Option.bind_some, Option.map_some]
    exact ⟨rfl, hx12⟩
  · cases h2 : (polyF t).isSome
    · simp only [o_pure, o_guard, gk_ff, o_nil, POp.ev, Opd.ev, gv, setD, Option.some.injEq, exists_eq_left', pickV, unV, Bool.not_true, Bool.not_false]
      refine Test.true_ (s_reg ?_)
      simp only [o_pure, o_nil, POp.ev, Opd.ev, setD, List.set, Option.some.injEq, exists_eq_left']
      refine s_ret1 ?_
      simp +decide only [p_seq_ret, p_fin_ret, resV, resOne, resL, gv, Option.some.injEq, exists_eq_left', Option.bind_some, Option.map_some]
      exact ⟨rfl, hx12⟩
    · simp only [o_pure, o_guard, gk_ff, o_nil, POp.ev, Opd.ev, gv, setD, Option.some.injEq, exists_eq_left', pickV, unV, Bool.not_true]
      refine Test.false_ (s_skip1 ?_)
      simp +decide only [p_seq_normal]
      have lp := polyL_sml (s := s)
      have lq := polyL_sml (s := t)
      refine s_reg ?_
      simp only [o_pure, o_callF, POp.ev, Opd.ev, gv, setD, List.map, Option.some.injEq, exists_eq_left']
      refine (sPrim_ok lim p _ H2 (by omega) (fp.ext hx2).sl lp).mono ?_
      rintro v3 H3 ⟨f3, hx3⟩
      have hn3 := hx3.next
      simp only [o_cont, o_pure, o_callF, POp.ev, Opd.ev, gv, setD, List.map, Option.some.injEq, exists_eq_left']
      refine (sPrim_ok lim q _ H3 (by omega) (fq.ext hx3).sl lq).mono ?_
      rintro v4 H4 ⟨f4, hx4⟩
      have hn4 := hx4.next
      simp only [o_cont, o_callF, Opd.ev, gv, setD, List.map]
      refine (sameT_ok lim v3 v4 _ _ H4 (by omega) (f3.ext hx4).sl f4.sl (by rw [primF_len]; have := lp.len; omega) (by rw [primF_len]; have := lq.len; omega)).mono ?_
      rintro _ H5 ⟨rfl, hx5⟩
      simp only [o_cont, o_pure, o_nil, POp.ev, Opd.ev, gv, setD, List.set, Option.some.injEq, exists_eq_left']
      refine s_ret1 ?_
      simp +decide only [p_fin_ret, resV, resOne, resL, gv, Option.some.injEq, exists_eq_left', Option.bind_some, Option.map_some]
      exact ⟨by simp, ((hx12.trans hx3).trans hx4).trans hx5⟩
theorem iSame_ok (lim : Nat) (s t : ByteArray) (H : AHeap) (hl : lim ≤ H.next) : ACalls Try.prog lim n_impl_IsSameEquation [.string s, .string t] H fun v H' => v = .tuple #[.bool (sameB s t), .bool ((polyF s).isSome && (polyF t).isSome)] ∧ Ext H H' := by
  refine is_impl_IsSameEquation.go rfl ?_
  unfold c_impl_IsSameEquation sameB
  refine s_reg ?_
  simp only [o_pure, o_nil, POp.ev, Opd.ev, env0, gu, setD, List.set, Option.some.injEq, exists_eq_left']
  refine s_reg ?_
  simp only [o_pure, o_callF, POp.ev, Opd.ev, gv, setD, List.map, Option.some.injEq, exists_eq_left']
  refine (iPoly_ok lim s H hl).mono ?_
  intro _ H1 hr
  obtain ⟨hx1, p, rfl, fp⟩ := hr.all
  have hn1 := hx1.next
  simp only [o_cont, o_pure, o_nil, POp.ev, Opd.ev, gv, setD, List.set, Option.some.injEq, exists_eq_left', extV, List.getElem?_toArray, List.getElem?_cons_zero, List.getElem?_cons_succ]
  refine s_reg ?_
  simp only [o_pure, o_callF, POp.ev, Opd.ev, gv, setD, List.map, Option.some.injEq, exists_eq_left']
  refine (iPoly_ok lim t H1 (by omega)).mono ?_
  intro _ H2 hr
  obtain ⟨hx2, q, rfl, fq⟩ := hr.all
  have hn2 := hx2.next
  simp only [o_cont, o_pure, o_nil, POp.ev, Opd.ev, gv, setD, List.set, Option.some.injEq, exists_eq_left', extV, List.getElem?_toArray, List.getElem?_cons_zero, List.getElem?_cons_succ]
  have hx12 := hx1.trans hx2
  refine s_test ?_
  cases h1 : (polyF s).isSome
  · simp only [o_pure, o_guard, gk_tf, o_nil, POp.ev, Opd.ev, gv, setD, Option.some.injEq, exists_eq_left', pickV, unV, Bool.not_false]
    refine Test.true_ (s_reg ?_)
    simp only [o_pure, o_nil, POp.ev, Opd.ev, setD, List.set, Option.some.injEq, exists_eq_left']
    refine s_ret1 ?_
    simp +decide only [p_seq_ret, p_fin_ret, resV, resOne, resL, gv, Option.some.injEq, exists_eq_left', Option.bind_some, Option.map_some]
    exact ⟨rfl, hx12⟩
  · cases h2 : (polyF t).isSome
    · simp only [o_pure, o_guard, gk_ff, o_nil, POp.ev, Opd.ev, gv, setD, Option.some.injEq, exists_eq_left', pickV, unV, Bool.not_true, Bool.not_false]
      refine Test.true_ (s_reg ?_)
      simp only [o_pure, o_nil, POp.ev, Opd.ev, setD, List.set, Option.some.injEq, exists_eq_left']
      refine s_ret1 ?_
      simp +decide only [p_seq_ret, p_fin_ret, resV, resOne, resL, gv, Option.some.injEq, exists_eq_left', Option.bind_some, Option.map_some]
      exact ⟨rfl, hx12⟩
    · simp only [o_pure, o_guard, gk_ff, o_nil, POp.ev, Opd.ev, gv, setD, Option.some.injEq, exists_eq_left', pickV, unV, Bool.not_true]
      refine Test.false_ (s_skip1 ?_)
      simp +decide only [p_seq_normal]
      have lp := polyL_sml (s := s)
      have lq := polyL_sml (s := t)
      refine s_reg ?_
      simp only [o_pure, o_callF, POp.ev, Opd.ev, gv, setD, List.map, Option.some.injEq, exists_eq_left']
      refine (iPrim_ok lim p _ H2 (by omega) (fp.ext hx2).sl lp).mono ?_
      rintro v3 H3 ⟨f3, hx3⟩
      have hn3 := hx3.next
      simp only [o_cont, o_pure, o_callF, POp.ev, Opd.ev, gv, setD, List.map, Option.some.injEq, exists_eq_left']
      refine (iPrim_ok lim q _ H3 (by omega) (fq.ext hx3).sl lq).mono ?_
      rintro v4 H4 ⟨f4, hx4⟩
      have hn4 := hx4.next
      simp only [o_cont, o_callF, Opd.ev, gv, setD, List.map]
      refine (equalT_ok lim v3 v4 _ _ H4 (f3.ext hx4).sl f4.sl (by rw [primF_len]; have := lp.len; omega) (by rw [primF_len]; have := lq.len; omega)).eq ?_
      simp only [o_cont, o_pure, o_nil, POp.ev, Opd.ev, gv, setD, List.set, Option.some.injEq, exists_eq_left']
      refine s_ret1 ?_
      simp +decide only [p_fin_ret, resV, resOne, resL, gv, Option.some.injEq, exists_eq_left', Option.bind_some, Option.map_some]
      exact ⟨by simp, (hx12.trans hx3).trans hx4⟩

theorem lawSameEquation_ok (lim : Nat) (s t : ByteArray) (H : AHeap) (hl : lim ≤ H.next) (h1 : s.size ≤ 4000000000000000000) (h2 : t.size ≤ 4000000000000000000) : ACalls Try.prog lim n_laws_FnExactIsSameEquation [.string s, .string t] H fun v _ => v = .bool true := by
  refine is_laws_FnExactIsSameEquation.go rfl ?_
  unfold c_laws_FnExactIsSameEquation
  refine s_reg ?_
  simp only [o_pure, o_nil, POp.ev, Opd.ev, env0, gu, setD, List.set, Option.some.injEq, exists_eq_left']
  refine s_test ?_
  simp only [o_pure, o_nil, POp.ev, Opd.ev, gv, setD, Option.some.injEq, exists_eq_left', binV, slenV, ne_eq, not_true_eq_false, if_false]
  refine Test.split (fun hbig => ?_) (fun hsm => ?_)
  · refine s_reg ?_
    simp only [o_pure, o_nil, POp.ev, Opd.ev, setD, List.set, Option.some.injEq, exists_eq_left']
    refine s_ret1 ?_
    simp +decide only [p_seq_ret, p_fin_ret, resV, resOne, gv, Option.some.injEq, exists_eq_left']
  · refine s_skip1 ?_
    simp +decide only [p_seq_normal]
    refine s_reg ?_
    simp only [o_pure, o_callF, POp.ev, Opd.ev, gv, setD, List.map, Option.some.injEq, exists_eq_left']
    refine (sSame_ok lim s t H hl).mono ?_
    rintro _ H1 ⟨rfl, hx1⟩
    have hn1 := hx1.next
    simp only [o_cont, o_pure, o_nil, POp.ev, Opd.ev, gv, setD, List.set, Option.some.injEq, exists_eq_left', extV, List.getElem?_toArray, List.getElem?_cons_zero, List.getElem?_cons_succ]
    refine s_reg ?_
    simp only [o_pure, o_callF, POp.ev, Opd.ev, gv, setD, List.map, Option.some.injEq, exists_eq_left']
    refine (iSame_ok lim s t H1 (by omega)).mono ?_
    rintro _ H2 ⟨rfl, hx2⟩
    simp only [o_cont, o_pure, o_nil, POp.ev, Opd.ev, gv, setD, List.set, Option.some.injEq, exists_eq_left', extV, List.getElem?_toArray, List.getElem?_cons_zero, List.getElem?_cons_succ]
    refine s_test ?_
    simp only [o_pure, o_guard, gk_ff, o_nil, POp.ev, Opd.ev, gv, setD, Option.some.injEq, exists_eq_left', pickV, boolEq, if_true, beq_self_eq_true, Bool.not_true]
    refine Test.false_ (s_skip1 ?_)
    simp +decide only [p_seq_normal]
    refine s_reg ?_
    simp only [o_pure, o_nil, POp.ev, Opd.ev, setD, List.set, Option.some.injEq, exists_eq_left']
    refine s_ret1 ?_
    simp +decide only [p_fin_ret, resV, resOne, gv, Option.some.injEq, exists_eq_left']
end Go.Proofs.Ytaimceodhhgnnaa

/- The rows' arguments: what a law of this seat is handed, told of the abstract heap; no condition. -/
namespace Go.Proofs.Ytaimceodhhgnnaa
open Go.Ab
set_option linter.unusedSimpArgs false
set_option linter.unusedVariables false
set_option maxRecDepth 100000
theorem own : ownKnob Try.prog.godebug = none := by kernel_rfl
theorem laidOut : laidOutB Try.prog = true := by kernel_rfl
theorem shp2 {P : Program} {H : AHeap} {n a b} {avs : List Value} (h : ShpAll P H n [a, b] avs) : ∃ v u, avs = [v, u] ∧ ShpV P H n a v ∧ ShpV P H n b u := by
  match avs, h with
  | [v, u], h => exact ⟨v, u, rfl, h.1, h.2.1⟩
end Go.Proofs.Ytaimceodhhgnnaa

/- The rows' arguments: texts; no condition. -/
namespace Go.Proofs.Ytaimceodhhgnnaa
open Go.Ab
set_option linter.unusedSimpArgs false
set_option linter.unusedVariables false
set_option maxRecDepth 100000
theorem shp_str {H : AHeap} {n : Nat} {v : Value} (h : ShpV Try.prog H (n + 1) 9 v) : ∃ s, v = .string s ∧ s.size ≤ reachBytes := by
  unfold ShpV Shp at h
  simp only [Try.underlying9] at h
  obtain ⟨s, h, h2⟩ := h
  cases h
  exact ⟨s, rfl, h2⟩
end Go.Proofs.Ytaimceodhhgnnaa
