/- Parts of the proof of a statement of this seat: contracts of functions that the law calls, or the law's own row; no condition. -/
import Derived.Test.YtooaafekllkpbaaDoorAbArg
import Derived.Test.YtooaafekllkpbaaDoorRows
import Derived.WalkKit
import Derived.ProofKit
import Derived.OpenShut
import Derived.ShutString
import Derived.ChangeOld
import Derived.Below
import Derived.SizedLaws
import Derived.Test.YtooaafekllkpbaaDoorM6
/- Parts of the proof of a statement of this seat: contracts of functions that the law calls, or the law's own row; no condition. -/
/- The reader of expressions, implementation: bases; no condition beyond stated ranges. -/
namespace Go.Proofs.YtooaafekllkpbaaDoor
open Go.Ab
set_option linter.unusedSimpArgs false
set_option linter.unusedVariables false

/-- what a reading answers: where there is none, it doesn't fit or stands at a digit; where a value is too great, it isn't told -/
def ResI (s : ByteArray) (q : Nat) (d : Int) (H0 : AHeap) (r : Option (St × V)) (v : Value) (H' : AHeap) : Prop :=
  Chg q H0 H' ∧ ∃ (X : V) (i' : Nat) (d' m' : Int) (f' t' : Bool), Good X ∧ IV H' H0.next v X ∧ i' ≤ s.size ∧ IRd H' q s i' d' m' f' t' ∧ (match r with
    | some r => f' = true ∧ i' = r.1.i ∧ d' = d ∧ m' = r.1.most ∧ t' = !r.1.large ∧ (r.1.large = false → X = r.2)
    | none => f' = false ∨ isD (ch s i') = true)
def IOk (lim q : Nat) (s : ByteArray) (d : Int) (f : FuncId) (F : PF) : Prop :=
  ∀ (H : AHeap) (st : St), lim ≤ H.next → q < H.next → st.i ≤ s.size → IRd H q s st.i d st.most true (!st.large) → ACalls Tryd.prog lim f [pt q] H (ResI s q d H (F st))
theorem ResI.cases {s : ByteArray} {q : Nat} {d : Int} {H0 H' : AHeap} {F : PF} {st : St} {v : Value} (hadv : Adv s F) (h : ResI s q d H0 (F st) v H') :
    Chg q H0 H' ∧ ∃ (X : V) (sl : Value) (i6 : Nat) (d6 m6 : Int) (f6 t6 : Bool), v = .agg #[.int .i64 X.den, sl] ∧ Good X ∧ SlF H' H0.next sl X.ts ∧ IRd H' q s i6 d6 m6 f6 t6 ∧ i6 ≤ s.size ∧
      ((F st = none ∧ (f6 = false ∨ isD (ch s i6) = true)) ∨ (∃ (l6 : Bool) (Y : V), F st = some (⟨i6, m6, l6⟩, Y) ∧ f6 = true ∧ d6 = d ∧ t6 = !l6 ∧ st.i < i6 ∧ Good Y ∧ (l6 = false → X = Y))) := by
  obtain ⟨c, X, i', d', m', f', t', gX, ⟨sl, rfl, fX⟩, hi, h1, hr⟩ := h
  refine ⟨c, X, sl, i', d', m', f', t', rfl, gX, fX, h1, hi, ?_⟩
  cases hf : F st with
  | none => rw [hf] at hr; exact .inl ⟨rfl, hr⟩
  | some r =>
    rw [hf] at hr
    obtain ⟨rfl, rfl, rfl, rfl, rfl, h2⟩ := hr
    obtain ⟨a1, a2, a3⟩ := hadv _ _ hf
    exact .inr ⟨r.1.large, r.2, rfl, rfl, rfl, rfl, a1, a3, h2⟩
theorem coll_single {t : Tm} (h : inR t.c) : coll [t] = if t.c = 0 then [] else [t] := by
  rw [coll_putAll (by intro u hu; rw [List.mem_singleton.1 hu]; exact h)]
  rfl
theorem numV_coll {n m : Nat} (hn : n ≤ 9999) (hm : 1 ≤ m) : mkV (coll [⟨n, 0, 0, 0⟩]) m = numV n m := by
  rw [coll_single (by show inR (n : Int); unfold inR; omega)]
  unfold numV
  by_cases h : n = 0
  · subst h
    rw [if_pos (by rfl), if_pos rfl]
    unfold mkV
    have e : ((m : Int)).tdiv (gcdL m []) = 1 := Int.tdiv_self (by omega)
    rw [e]
    rfl
  · rw [if_neg h, if_neg (by show ¬ (n : Int) = 0; omega)]

theorem iBase_ok (lim q : Nat) (s : ByteArray) (d : Int) (S : Option PF) (hq : lim ≤ q) (hs : s.size ≤ 100) (hd : 0 ≤ d ∧ d ≤ 4)
    (hS : ∀ f, S = some f → d < 4 ∧ Adv s f ∧ IOk lim q s (d + 1) n_impl_reader_sum f) (hN : S = none → d = 4) : IOk lim q s d n_impl_reader_base (pBase s d S) := by
  intro H st hl hqn hi h
  refine is_impl_reader_base.go rfl ?_
  unfold c_impl_reader_base
  refine s_reg ?_
  simp only [o_eff, o_nil, EOp.ev, env0, gu, setD, List.set, Option.some.injEq, exists_eq_left']
  have L1 := Loc.mk' (Chg.refl q H) [.int .i64 0, .slice none 0 0]
  replace h := h.ext (Ext.alloc H [.int .i64 0, .slice none 0 0]) hqn
  generalize H.alloc [.int .i64 0, .slice none 0 0] = H1 at L1 h ⊢
  have hn1 := L1.lt
  generalize hp1 : H.next = p1 at L1 hn1
  have hb := ch_b s st.i
  refine s_reg ?_
  simp only [o_pure, o_callF, POp.ev, Opd.ev, gv, setD, List.map, Option.some.injEq, exists_eq_left']
  refine (iNext_ok lim q _ s st.i d st.most true _ H1 hq (by omega) h).mono ?_
  rintro _ H2 ⟨rfl, h2, c2⟩
  rw [hit_xyz] at h2 ⊢
  simp only [o_cont, o_pure, o_nil, POp.ev, Opd.ev, gv, setD, List.set, Option.some.injEq, exists_eq_left', extV, List.getElem?_toArray, List.getElem?_cons_zero, List.getElem?_cons_succ]
  have hn2 := c2.next
  replace L1 := L1.step c2 hqn
  refine s_test ?_
  simp only [o_pure, o_nil, POp.ev, Opd.ev, gv, setD, Option.some.injEq, exists_eq_left']
  by_cases hlet : 120 ≤ ch s st.i ∧ ch s st.i ≤ 122
  · have hlt := ch_lt (s := s) (i := st.i) (by omega)
    have hP : pBase s d S st = some ({ st with i := st.i + 1 }, ⟨[xk ((ch s st.i : Int) - 120)], 1⟩) := by unfold pBase; rw [if_pos hlet]
    simp only [hlet, and_self, decide_true, if_true] at h2 ⊢
    refine Test.true_ ?_
    have hf0 : fillV [.int .i64 0, .int .i64 0, .int .i64 0] [] = some [.int .i64 0, .int .i64 0, .int .i64 0] := rfl
    have hst : storeH lim (H2.alloc [.int .i64 0, .int .i64 0, .int .i64 0]) 3 (pt H2.next) (.agg #[.int .i64 0, .int .i64 0, .int .i64 0]) = some (undef, H2.alloc [.int .i64 0, .int .i64 0, .int .i64 0]) := by
      have := store_all (lim := lim) (H := H2.alloc [.int .i64 0, .int .i64 0, .int .i64 0]) (b := H2.next) (cs := [.int .i64 0, .int .i64 0, .int .i64 0]) (xs := [.int .i64 0, .int .i64 0, .int .i64 0]) (by omega) (alloc_new _ _) rfl
      rw [alloc_put] at this
      exact this
    refine s_reg ?_
    simp only [o_pure, o_eff, o_nil, POp.ev, Opd.ev, EOp.ev, gv, setD, List.set, List.map, Option.map_some, Option.some.injEq, exists_eq_left', hf0, hst]
    have hx3 := Ext.alloc H2 [.int .i64 0, .int .i64 0, .int .i64 0]
    have hbk : (H2.alloc [.int .i64 0, .int .i64 0, .int .i64 0]).blk H2.next = some [.int .i64 0, .int .i64 0, .int .i64 0] := alloc_new _ _
    have L3 := L1.ext hx3
    have h3 := h2.ext hx3 (by omega)
    have hlt1 := L1.lt
    have hn3 : H2.next < (H2.alloc [.int .i64 0, .int .i64 0, .int .i64 0]).next := Nat.lt_succ_self _
    generalize H2.alloc [.int .i64 0, .int .i64 0, .int .i64 0] = H3 at hx3 hbk L3 h3 hn3 ⊢
    generalize hp4 : H2.next = p4 at hbk hn3 hlt1
    have w1 : IntKind.u8.wrap ((ch s st.i : Int) - 120) = ((ch s st.i - 120 : Nat) : Int) := by rw [IntKind.wrap_u8]; omega
    have ha : aadV 3 1 (pt p4) (.int .u8 ((ch s st.i - 120 : Nat) : Int)) = some (.pointer (some ⟨p4, ch s st.i - 120, none⟩)) := by
      simp only [aadV, Nat.zero_add, Nat.mul_one, Int.toNat_natCast]
      rw [if_pos (by omega)]
    have hsto := store_int (lim := lim) (H := H3) (b := p4) (o := ch s st.i - 120) .i64 1 (by omega) hbk (by simp; omega)
    refine s_reg ?_
    simp only [o_pure, o_eff, o_nil, POp.ev, Opd.ev, EOp.ev, gv, setD, Option.some.injEq, exists_eq_left', binV, ne_eq, not_true_eq_false, if_false, w1, ha, hsto]
    have c4 := Chg.put p4 H3 ([Value.int .i64 0, .int .i64 0, .int .i64 0].set (ch s st.i - 120) (.int .i64 1))
    have hbk4 : ∃ a b c : Int, (H3.put p4 ([Value.int .i64 0, .int .i64 0, .int .i64 0].set (ch s st.i - 120) (.int .i64 1))).blk p4 = some [.int .i64 a, .int .i64 b, .int .i64 c] ∧ (⟨1, a, b, c⟩ : Tm) = xk ((ch s st.i : Int) - 120) := by
      rw [put_same]
      have : ch s st.i = 120 ∨ ch s st.i = 121 ∨ ch s st.i = 122 := by omega
      rcases this with e | e | e <;> rw [e]
      · exact ⟨1, 0, 0, rfl, rfl⟩
      · exact ⟨0, 1, 0, rfl, rfl⟩
      · exact ⟨0, 0, 1, rfl, rfl⟩
    obtain ⟨ea, eb, ec, hbk4, hxk⟩ := hbk4
    generalize H3.put p4 ([Value.int .i64 0, .int .i64 0, .int .i64 0].set (ch s st.i - 120) (.int .i64 1)) = H4 at c4 hbk4 ⊢
    have hge3 := L3.chg.next
    have L4 := L3.other c4 (by omega) (by have := L1.chg.next; omega)
    have h4 := h3.over c4 (by omega) (by have := L1.chg.next; omega)
    have hn4 := c4.next
    have hld3 : loadNV H4 3 (pt p4) = some (.agg #[.int .i64 ea, .int .i64 eb, .int .i64 ec]) := loadNV_blk hbk4
    refine s_reg ?_
    simp only [o_pure, o_callF, POp.ev, Opd.ev, gv, setD, List.map, Option.some.injEq, exists_eq_left', hld3]
    refine (termOfG_ok lim 1 ea eb ec H4 (by omega)).mono ?_
    rintro _ H5 ⟨rfl, hx5⟩
    rw [hxk]
    have hn5 := hx5.next
    have hbs : ∀ t : Tm, bsliceH H5 1 [.int .i64 0, .int .i64 0, .int .i64 0, .int .i64 0] [(0, 4, tv t)] = some (.slice (some ⟨H5.next, 0, some 0⟩) 1 1, H5.alloc (tc t)) := fun t => rfl
    have hf2 : fillV [.int .i64 0, .slice none 0 0] [(0, 1, .int .i64 1), (1, 1, .slice (some ⟨H5.next, 0, some 0⟩) 1 1)] = some [.int .i64 1, .slice (some ⟨H5.next, 0, some 0⟩) 1 1] := fill2 rfl rfl
    have hF := SlF.one H5 (xk ((ch s st.i : Int) - 120)) H5.next (Nat.le_refl _)
    have hx6 := Ext.alloc H5 (tc (xk ((ch s st.i : Int) - 120)))
    have L6 := (L4.ext hx5).ext hx6
    have h6 := h4.ext (hx5.trans hx6) (by omega)
    simp only [o_cont, o_pure, o_eff, o_nil, POp.ev, Opd.ev, EOp.ev, gv, setD, List.map, Option.map_some, Option.some.injEq, exists_eq_left', hbs, hf2]
    generalize H5.alloc (tc (xk ((ch s st.i : Int) - 120))) = H6 at hF hx6 L6 h6 ⊢
    generalize Value.slice (some ⟨H5.next, 0, some 0⟩) 1 1 = sl at hF ⊢
    obtain ⟨H7, e7, L7, c7, n7⟩ := L6.put2 hl (.int .i64 1) sl
    simp only [Option.some.injEq, exists_eq_left', e7]
    refine s_ret1 ?_
    simp +decide only [p_seq_ret, p_fin_ret, resV, resOne, gv, Option.some.injEq, exists_eq_left', L7.load2]
    have hn6 := hx6.next
    have hge6 := L6.ge
    refine ⟨L7.chg, _, _, _, _, _, _, single_good (xk_ex ((ch s st.i : Int) - 120)).1 (xk_ex _).2, ⟨sl, rfl, (hF.chg c7 (.inl (by omega))).low (by omega)⟩, hlt, h6.over c7 (by omega) (by omega), ?_⟩
    rw [hP]
    exact ⟨rfl, rfl, rfl, rfl, rfl, fun _ => rfl⟩
  · simp only [hlet, decide_false, if_false, Bool.false_eq_true] at h2 ⊢
    refine Test.false_ (s_skip1 ?_)
    simp +decide only [p_seq_normal]
    refine s_reg ?_
    simp only [o_pure, o_callF, POp.ev, Opd.ev, gv, setD, List.map, Option.some.injEq, exists_eq_left']
    refine (iNext_ok lim q _ s st.i d st.most true _ H2 hq (by omega) h2).mono ?_
    rintro _ H3 ⟨rfl, h3, c3⟩
    rw [hit_open] at h3 ⊢
    simp only [o_cont, o_pure, o_nil, POp.ev, Opd.ev, gv, setD, List.set, Option.some.injEq, exists_eq_left', extV, List.getElem?_toArray, List.getElem?_cons_zero, List.getElem?_cons_succ]
    have hn3 := c3.next
    replace L1 := L1.step c3 hqn
    have hge1 := L1.ge
    refine s_test ?_
    simp only [o_pure, o_nil, POp.ev, Opd.ev, gv, setD, Option.some.injEq, exists_eq_left']
    by_cases h40 : ch s st.i = 40
    · have hlt := ch_lt (s := s) (i := st.i) (by omega)
      have hP : pBase s d S st = S.bind fun f => (f { st with i := st.i + 1, most := mx st.most (d + 1) }).bind fun r => if ch s r.1.i = 41 then some ({ r.1 with i := r.1.i + 1 }, r.2) else none := by
        unfold pBase; rw [if_neg hlet, if_pos h40]
      simp only [h40, decide_true, if_true] at h3 ⊢
      refine Test.true_ ?_
      obtain ⟨H4, e4, h4, c4⟩ := h3.s2 hq (d + 1)
      obtain ⟨H5, e5, h5, c5⟩ := h4.s3 hq (mx st.most (d + 1))
      obtain ⟨H6, e6, h6, c6⟩ := h5.s4 hq (decide (d + 1 ≤ 4))
      have wd : IntKind.i64.wrap (d + 1) = d + 1 := by rw [IntKind.wrap_i64]; omega
      have emx : (if d + 1 > st.most then d + 1 else st.most) = mx st.most (d + 1) := by
        unfold mx
        split <;> split <;> omega
      refine s_reg ?_
      simp only [o_pure, o_eff, o_nil, POp.ev, Opd.ev, EOp.ev, gv, setD, Option.some.injEq, exists_eq_left', binV, load1V, nilchkV, fadV, ne_eq, not_true_eq_false, if_false, Nat.zero_add, h3.c2, wd, e4]
      refine s_reg ?_
      simp only [o_pure, o_eff, o_nil, POp.ev, Opd.ev, EOp.ev, gv, setD, Option.some.injEq, exists_eq_left', load1V, max2V, nilchkV, fadV, Nat.zero_add, h4.c3, h4.c2, emx, e5]
      refine s_reg ?_
      simp only [o_pure, o_eff, o_guard, gk_tt, o_nil, POp.ev, Opd.ev, EOp.ev, gv, setD, Option.some.injEq, exists_eq_left', pickV, binV, load1V, nilchkV, fadV, ne_eq, not_true_eq_false, if_false, Nat.zero_add, h5.c4, h5.c2, e6]
      have c36 := (c4.trans c5).trans c6
      replace L1 := L1.step c36 hqn
      have hn6 := c36.next
      refine s_test ?_
      simp only [o_pure, o_nil, POp.ev, Opd.ev, gv, setD, Option.some.injEq, exists_eq_left', load1V, nilchkV, unV, fadV, Nat.zero_add, h6.c4]
      by_cases hdeep : d + 1 ≤ 4
      · obtain ⟨f, hf⟩ : ∃ f, S = some f := by
          cases hSS : S with
          | none => have := hN hSS; omega
          | some f => exact ⟨f, rfl⟩
        obtain ⟨hd4, hadv, hsum⟩ := hS f hf
        subst hf
        simp only [Option.bind_some] at hP
        simp only [hdeep, decide_true, Bool.not_true] at h6 ⊢
        refine Test.false_ (s_skip1 ?_)
        simp +decide only [p_seq_normal]
        refine s_reg ?_
        simp only [o_pure, o_callF, POp.ev, Opd.ev, gv, setD, List.map, Option.some.injEq, exists_eq_left']
        refine (hsum H6 { st with i := st.i + 1, most := mx st.most (d + 1) } (by omega) (by omega) hlt h6).mono ?_
        intro v H7 hr
        obtain ⟨c7, X, slx, i7, d7, m7, f7, t7, rfl, gX, fX, h7, hi7, hcase⟩ := ResI.cases hadv hr
        have hn7 := c7.next
        have L17 := L1.step c7 hqn
        simp only [o_cont, o_eff, o_nil, Opd.ev, EOp.ev, gv, setD, List.set, Option.some.injEq, exists_eq_left', store2_new (lim := lim) (H := H7) (by omega)]
        have L6 := Loc.mk' L17.chg [.int .i64 X.den, slx]
        have hx8 := Ext.alloc H7 [.int .i64 X.den, slx]
        have L18 := L17.ext hx8
        have h8 := h7.ext hx8 (by omega)
        have f8 := fX.ext hx8
        have hlt17 := L17.lt
        generalize H7.alloc [.int .i64 X.den, slx] = H8 at L6 hx8 L18 h8 f8 ⊢
        have hn8 := hx8.next
        generalize H7.next = p6 at L6 hlt17
        refine s_reg ?_
        simp only [o_pure, o_callF, POp.ev, Opd.ev, gv, setD, List.map, Option.some.injEq, exists_eq_left']
        refine (iNext_ok lim q _ s i7 d7 m7 f7 t7 H8 hq (by omega) h8).mono ?_
        rintro _ H9 ⟨rfl, h9, c9⟩
        rw [hit_close] at h9 ⊢
        simp only [o_cont, o_pure, o_nil, POp.ev, Opd.ev, gv, setD, List.set, Option.some.injEq, exists_eq_left', extV, List.getElem?_toArray, List.getElem?_cons_zero, List.getElem?_cons_succ]
        obtain ⟨H10, e10, h10, c10⟩ := h9.s4 hq (f7 && decide (ch s i7 = 41))
        obtain ⟨H11, e11, h11, c11⟩ := h10.s2 hq (IntKind.i64.wrap (d7 - 1))
        refine s_reg_cut (fun e' H' => H' = H10 ∧ e' = [pt q, pt p1, .int .u8 0, .bool false, undef, .bool true, pt p6, .bool (decide (ch s i7 = 41)), undef, undef, undef]) ?_ ?_
        · cases hf7 : f7
          · rw [hf7] at e10
            simp only [Bool.false_and] at e10
            simp only [o_pure, o_eff, o_guard, gk_ft, o_nil, POp.ev, Opd.ev, EOp.ev, gv, setD, Option.some.injEq, exists_eq_left', pickV, load1V, nilchkV, fadV, Nat.zero_add, h9.c4, hf7, e10]
            exact ⟨trivial, trivial⟩
          · rw [hf7] at e10
            simp only [Bool.true_and] at e10
            simp only [o_pure, o_eff, o_guard, gk_tt, o_nil, POp.ev, Opd.ev, EOp.ev, gv, setD, Option.some.injEq, exists_eq_left', pickV, load1V, nilchkV, fadV, Nat.zero_add, h9.c4, hf7, e10]
            exact ⟨trivial, trivial⟩
        · rintro e' H' ⟨rfl, rfl⟩
          refine s_reg ?_
          simp only [o_pure, o_eff, o_nil, POp.ev, Opd.ev, EOp.ev, gv, setD, Option.some.injEq, exists_eq_left', binV, load1V, nilchkV, fadV, ne_eq, not_true_eq_false, if_false, Nat.zero_add, h10.c2, e11]
          have c811 := (c9.trans c10).trans c11
          have L111 := L18.step c811 hqn
          have L611 := L6.step c811 hqn
          have hn11 := c811.next
          have hge11 := L111.ge
          obtain ⟨H12, e12, L12, c12, n12⟩ := L111.put2 hl (.int .i64 X.den) slx
          refine s_reg ?_
          simp only [o_pure, o_eff, o_nil, POp.ev, Opd.ev, EOp.ev, gv, setD, Option.some.injEq, exists_eq_left', L611.load2, e12]
          refine s_ret1 ?_
          simp +decide only [p_seq_ret, p_fin_ret, resV, resOne, gv, Option.some.injEq, exists_eq_left', L12.load2]
          have h12 := h11.over c12 (by omega) (by omega)
          refine ⟨L12.chg, X, _, _, _, _, _, gX, ⟨slx, rfl, ((f8.chg c811 (.inl (by omega))).chg c12 (.inl (by omega))).low (by omega)⟩, ?_, h12, ?_⟩
          · split
            · exact ch_lt (s := s) (i := i7) (by simp_all)
            · exact hi7
          · rw [hP]
            rcases hcase with ⟨hn, hbad⟩ | ⟨l6, Y, hsm, rfl, rfl, rfl, _, gY, hXY⟩
            · rw [hn]
              left
              rcases hbad with rfl | hdig
              · rfl
              · have : ¬ ch s i7 = 41 := by
                  intro e; rw [e] at hdig; cases hdig
                simp [this]
            · rw [hsm]
              simp only [Option.bind_some]
              by_cases h41 : ch s i7 = 41
              · rw [if_pos h41]
                have wd2 : IntKind.i64.wrap (d + 1 - 1) = d := by rw [IntKind.wrap_i64]; omega
                simp only [h41, decide_true, if_true, Bool.and_self]
                exact ⟨trivial, trivial, wd2, trivial, trivial, hXY⟩
              · rw [if_neg h41]
                left
                simp [h41]
      · have hSn : S = none := by
          cases hSS : S with
          | none => rfl
          | some f => have := (hS f hSS).1; omega
        simp only [hdeep, decide_false, Bool.not_false] at h6 ⊢
        refine Test.true_ ?_
        have hf : fillV [.int .i64 0, .slice none 0 0] [(0, 1, .int .i64 1)] = some [.int .i64 1, .slice none 0 0] := rfl
        obtain ⟨H7, e7, L7, c7, n7⟩ := L1.put2 hl (.int .i64 1) (.slice none 0 0)
        refine s_reg ?_
        simp only [o_pure, o_eff, o_nil, POp.ev, Opd.ev, EOp.ev, gv, setD, List.map, Option.map_some, Option.some.injEq, exists_eq_left', hf, e7]
        refine s_ret1 ?_
        simp +decide only [p_seq_ret, p_fin_ret, resV, resOne, gv, Option.some.injEq, exists_eq_left', L7.load2]
        refine ⟨L7.chg, zV, _, _, _, _, _, zV_good, ⟨_, rfl, SlF.nil _ _⟩, hlt, h6.over c7 (by omega) (by omega), ?_⟩
        rw [hP, hSn]
        exact .inl rfl
    · have hP : pBase s d S st = (pNum s st.i).bind fun a => if ch s a.2 = 47 then (pNum s (a.2 + 1)).bind fun b => if b.1 = 0 then none else some (keepF { st with i := b.2 } (numV a.1 b.1)) else some (keepF { st with i := a.2 } (numV a.1 1)) := by
        unfold pBase; rw [if_neg hlet, if_neg h40]
      simp only [h40, decide_false, if_false, Bool.false_eq_true] at h3 ⊢
      refine Test.false_ (s_skip1 ?_)
      simp +decide only [p_seq_normal]
      refine s_reg ?_
      simp only [o_pure, o_callF, POp.ev, Opd.ev, gv, setD, List.map, Option.some.injEq, exists_eq_left']
      refine (iNumber_ok lim q s st.i d st.most (!st.large) H3 (by omega) hq (by omega) hs hi h3).mono ?_
      rintro _ H4 ⟨n, i4, f4, rfl, hn9', _, hi4, h4, c4, hm4⟩
      have hn4 := c4.next
      simp only [o_cont, o_pure, o_nil, POp.ev, Opd.ev, gv, setD, List.set, Option.some.injEq, exists_eq_left']
      refine s_reg ?_
      simp only [o_pure, o_nil, POp.ev, Opd.ev, setD, List.set, Option.some.injEq, exists_eq_left']
      refine s_reg ?_
      simp only [o_pure, o_callF, POp.ev, Opd.ev, gv, setD, List.map, Option.some.injEq, exists_eq_left']
      refine (iNext_ok lim q _ s i4 d st.most f4 (!st.large) H4 hq (by omega) h4).mono ?_
      rintro _ H5 ⟨rfl, h5, c5⟩
      rw [hit_slash] at h5 ⊢
      simp only [o_cont, o_pure, o_nil, POp.ev, Opd.ev, gv, setD, List.set, Option.some.injEq, exists_eq_left', extV, List.getElem?_toArray, List.getElem?_cons_zero, List.getElem?_cons_succ]
      have hn5 := c5.next
      refine s_cut1 (fun e' H' => ∃ (den i6 : Nat) (f6 : Bool) (x10 : Value), den ≤ 9999 ∧ i6 ≤ s.size ∧ IRd H' q s i6 d st.most f6 (!st.large) ∧ Chg q H5 H' ∧ (f6 = true → 1 ≤ den) ∧
        ((pBase s d S st = none ∧ (f6 = false ∨ isD (ch s i6) = true)) ∨ (pBase s d S st = some (keepF { st with i := i6 } (numV n den)) ∧ f6 = true)) ∧
        e' = [pt q, pt p1, .int .u8 0, .bool false, undef, .bool false, undef, undef, .int .i64 n, .int .i64 den, x10]) ?_ ?_
      · by_cases h47 : ch s i4 = 47
        · have hlt4 := ch_lt (s := s) (i := i4) (by omega)
          simp only [h47, decide_true, if_true] at h5 ⊢
          cases hf4 : f4
          · refine s_test1_same false ?_ (fun e => by cases e) (fun _ => ?_)
            · simp only [o_pure, o_guard, gk_tt, o_nil, POp.ev, Opd.ev, gv, setD, Option.some.injEq, exists_eq_left', pickV, load1V, nilchkV, fadV, Nat.zero_add, h5.c4, hf4]
              simp
            · refine s_skip1 ?_
              simp +decide only [p_seq_normal]
              rw [hf4] at h5 hm4
              refine ⟨1, i4 + 1, false, _, by omega, hlt4, h5, Chg.refl _ _, by simp, .inl ⟨?_, .inl rfl⟩, rfl⟩
              rw [hP]
              cases hpn : pNum s st.i with
              | none => rfl
              | some a => rw [hpn] at hm4; have := hm4.2.2; cases this
          · rw [hf4] at h5 hm4
            obtain ⟨a, hpn, rfl, rfl⟩ : ∃ a, pNum s st.i = some a ∧ n = a.1 ∧ i4 = a.2 := by
              cases hpn : pNum s st.i with
              | none =>
                rw [hpn] at hm4
                rcases hm4 with h | h
                · cases h
                · rw [h47] at h; cases h
              | some a => rw [hpn] at hm4; exact ⟨a, rfl, hm4.1, hm4.2.1⟩
            rw [hpn] at hP
            simp only [Option.bind_some] at hP
            rw [if_pos h47] at hP
            refine s_test1_same true ?_ (fun _ => ?_) (fun e => by cases e)
            · simp only [o_pure, o_guard, gk_tt, o_nil, POp.ev, Opd.ev, gv, setD, Option.some.injEq, exists_eq_left', pickV, load1V, nilchkV, fadV, Nat.zero_add, h5.c4]
              simp
            · refine s_reg ?_
              simp only [o_pure, o_callF, POp.ev, Opd.ev, gv, setD, List.map, Option.some.injEq, exists_eq_left']
              refine (iNumber_ok lim q s (a.2 + 1) d st.most (!st.large) H5 (by omega) hq (by omega) hs hlt4 h5).mono ?_
              rintro _ H6 ⟨n6, i6, f6, rfl, hn6, _, hi6, h6, c6, hm6⟩
              simp only [o_cont, o_pure, o_nil, POp.ev, Opd.ev, gv, setD, List.set, Option.some.injEq, exists_eq_left']
              obtain ⟨H7, e7, h7, c7⟩ := h6.s4 hq (f6 && decide ((n6 : Int) > 0))
              refine s_reg1 ?_
              have hfin : pBase s d S st = none ∧ ((f6 && decide ((n6 : Int) > 0)) = false ∨ isD (ch s i6) = true) ∨ pBase s d S st = some (keepF { st with i := i6 } (numV a.1 n6)) ∧ (f6 && decide ((n6 : Int) > 0)) = true := by
                rw [hP]
                cases hp6 : pNum s (a.2 + 1) with
                | none =>
                  rw [hp6] at hm6
                  left
                  refine ⟨rfl, ?_⟩
                  rcases hm6 with rfl | h
                  · exact .inl rfl
                  · exact .inr h
                | some b =>
                  rw [hp6] at hm6
                  obtain ⟨rfl, rfl, rfl⟩ := hm6
                  simp only [Option.bind_some]
                  by_cases hb0 : b.1 = 0
                  · rw [if_pos hb0]
                    left
                    exact ⟨rfl, .inl (by simp [hb0])⟩
                  · rw [if_neg hb0]
                    right
                    exact ⟨rfl, by simp; omega⟩
              cases hf6 : f6
              · rw [hf6] at e7 h7 hfin
                simp only [Bool.false_and] at e7 h7 hfin
                simp only [o_pure, o_eff, o_guard, gk_ft, o_nil, POp.ev, Opd.ev, EOp.ev, gv, setD, Option.some.injEq, exists_eq_left', pickV, load1V, nilchkV, fadV, Nat.zero_add, h6.c4, hf6, e7]
                simp +decide only [p_seq_normal]
                exact ⟨n6, i6, false, _, hn6, hi6, h7, c6.trans c7, by simp, by simpa using hfin, rfl⟩
              · rw [hf6] at e7 h7 hfin
                simp only [Bool.true_and] at e7 h7 hfin
                simp only [o_pure, o_eff, o_guard, gk_tt, o_nil, POp.ev, Opd.ev, EOp.ev, gv, setD, Option.some.injEq, exists_eq_left', pickV, binV, load1V, nilchkV, fadV, ne_eq, not_true_eq_false, if_false, Nat.zero_add, h6.c4, hf6, e7]
                simp +decide only [p_seq_normal]
                exact ⟨n6, i6, _, _, hn6, hi6, h7, c6.trans c7, by intro e; simp at e; omega, hfin, rfl⟩
        · simp only [h47, decide_false, if_false, Bool.false_eq_true] at h5 ⊢
          refine s_test1_same false ?_ (fun e => by cases e) (fun _ => ?_)
          · simp only [o_pure, o_guard, gk_ft, o_nil, POp.ev, Opd.ev, gv, setD, Option.some.injEq, exists_eq_left', pickV]
            simp
          · refine s_skip1 ?_
            simp +decide only [p_seq_normal]
            refine ⟨1, i4, f4, _, by omega, hi4, h5, Chg.refl _ _, fun _ => Nat.le_refl _, ?_, rfl⟩
            rw [hP]
            cases hpn : pNum s st.i with
            | none => rw [hpn] at hm4; exact .inl ⟨rfl, hm4⟩
            | some a =>
              rw [hpn] at hm4
              obtain ⟨rfl, rfl, rfl⟩ := hm4
              simp only [Option.bind_some]
              rw [if_neg h47]
              exact .inr ⟨rfl, trivial⟩
      · rintro e' H6 ⟨den, i6, f6, x10, hden9, hi6, h6, c6, hden1, hfin, rfl⟩
        have hn6 := c6.next
        have L6 := L1.step ((c4.trans c5).trans c6) hqn
        have hge6 := L6.ge
        refine s_test ?_
        simp only [o_pure, o_nil, POp.ev, Opd.ev, gv, setD, Option.some.injEq, exists_eq_left', load1V, nilchkV, unV, fadV, Nat.zero_add, h6.c4]
        cases hf6 : f6
        · rw [hf6] at h6 hfin
          refine Test.true_ ?_
          have hf : fillV [.int .i64 0, .slice none 0 0] [(0, 1, .int .i64 1)] = some [.int .i64 1, .slice none 0 0] := rfl
          obtain ⟨H7, e7, L7, c7, n7⟩ := L6.put2 hl (.int .i64 1) (.slice none 0 0)
          refine s_reg ?_
          simp only [o_pure, o_eff, o_nil, POp.ev, Opd.ev, EOp.ev, gv, setD, List.map, Option.map_some, Option.some.injEq, exists_eq_left', hf, e7]
          refine s_ret1 ?_
          simp +decide only [p_seq_ret, p_fin_ret, resV, resOne, gv, Option.some.injEq, exists_eq_left', L7.load2]
          refine ⟨L7.chg, zV, _, _, _, _, _, zV_good, ⟨_, rfl, SlF.nil _ _⟩, hi6, h6.over c7 (by omega) (by omega), ?_⟩
          rcases hfin with ⟨hn, _⟩ | ⟨_, e⟩
          · rw [hn]; exact .inl rfl
          · cases e
        · rw [hf6] at h6 hfin
          have hden1' := hden1 hf6
          refine Test.false_ (s_skip1 ?_)
          simp +decide only [p_seq_normal]
          have hf : fillV [.int .i64 0, .int .i64 0, .int .i64 0, .int .i64 0] [(0, 1, .int .i64 n)] = some [.int .i64 n, .int .i64 0, .int .i64 0, .int .i64 0] := rfl
          have hbs : bsliceH H6 1 [.int .i64 0, .int .i64 0, .int .i64 0, .int .i64 0] [(0, 4, .agg #[.int .i64 n, .int .i64 0, .int .i64 0, .int .i64 0])] = some (.slice (some ⟨H6.next, 0, some 0⟩) 1 1, H6.alloc (tc ⟨n, 0, 0, 0⟩)) := rfl
          have hF := SlF.one H6 ⟨n, 0, 0, 0⟩ H6.next (Nat.le_refl _)
          have hx7 := Ext.alloc H6 (tc ⟨n, 0, 0, 0⟩)
          refine s_reg ?_
          simp only [o_pure, o_eff, o_callF, POp.ev, Opd.ev, EOp.ev, gv, setD, List.map, Option.map_some, Option.some.injEq, exists_eq_left', hf, hbs]
          generalize H6.alloc (tc ⟨n, 0, 0, 0⟩) = H7 at hF hx7 ⊢
          generalize Value.slice (some ⟨H6.next, 0, some 0⟩) 1 1 = sl at hF ⊢
          have hn7 := hx7.next
          refine (collectG_ok lim sl _ H7 (by omega) hF.sl (by simp)).mono ?_
          rintro vc H8 ⟨bc, hbc1, hbc2, hvc, hx8⟩
          have hn8 := hx8.next
          have hcl := coll_length [(⟨n, 0, 0, 0⟩ : Tm)]
          have hcs := coll_single (t := ⟨n, 0, 0, 0⟩) (by show inR (n : Int); unfold inR; omega)
          have hmem : ∀ t ∈ coll [(⟨n, 0, 0, 0⟩ : Tm)], t = ⟨n, 0, 0, 0⟩ := by
            intro t ht
            rw [hcs] at ht
            split at ht
            · simp at ht
            · exact List.mem_singleton.1 ht
          simp only [o_cont, o_callF, Opd.ev, gv, setD, List.map]
          refine (reduced_ok lim vc _ den H8 (by omega) (Vec.sl hvc) (by simp at hcl; omega) (by omega) (fun t ht => by rw [hmem t ht]; show _ ≤ (n : Int) ∧ (n : Int) ≤ _; omega)).mono ?_
          rintro _ H9 ⟨⟨sl9, rfl, fS⟩, hx9⟩
          have hn9 := hx9.next
          have hx69 := (hx7.trans hx8).trans hx9
          simp only [o_cont, o_callF, Opd.ev, gv, setD, List.map]
          refine (iKeep_ok lim q s i6 d st.most true (!st.large) sl9 (redV (coll [⟨n, 0, 0, 0⟩]) den) H9 hq (by omega) (by omega) (h6.ext hx69 (by omega)) fS.sl (by unfold redV; simp at hcl ⊢; omega) (fun t ht => by
            obtain ⟨u, hu, rfl⟩ := List.mem_map.1 ht
            rw [hmem u hu]
            simp only [divT, exS]
            omega)).mono ?_
          rintro _ H10 ⟨rfl, h10, c10⟩
          have hn10 := c10.next
          obtain ⟨H11, e11, L11, c11, n11⟩ := ((L6.ext hx69).step c10 hqn).put2 hl (.int .i64 (if !st.large && toldB (redV (coll [⟨n, 0, 0, 0⟩]) den) then (redV (coll [⟨n, 0, 0, 0⟩]) den).den else 1)) (if !st.large && toldB (redV (coll [⟨n, 0, 0, 0⟩]) den) then sl9 else .slice none 0 0)
          simp only [o_cont, o_eff, o_nil, Opd.ev, EOp.ev, gv, setD, Option.some.injEq, exists_eq_left', e11]
          refine s_ret1 ?_
          simp +decide only [p_fin_ret, resV, resOne, gv, Option.some.injEq, exists_eq_left', L11.load2]
          have h11 := h10.over c11 (by omega) (by omega)
          have hnv := numV_coll hn9' hden1'
          rw [mkV_red] at hnv
          cases hcc : (!st.large && toldB (redV (coll [⟨n, 0, 0, 0⟩]) den))
          · rw [hcc] at h11
            simp only [Bool.false_eq_true, if_false]
            refine ⟨L11.chg, zV, _, _, _, _, _, zV_good, ⟨_, rfl, SlF.nil _ _⟩, hi6, h11, ?_⟩
            rcases hfin with ⟨hn, hbad⟩ | ⟨hsm, _⟩
            · rw [hn]
              exact .inr (hbad.resolve_left (by simp))
            · rw [hsm]
              refine ⟨rfl, (keepF_i { st with i := i6 } (numV n den)).symm, rfl, (keepF_most { st with i := i6 } (numV n den)).symm, ?_⟩
              have hlg : (keepF { st with i := i6 } (numV n den)).1.large = true := by
                rw [keepF_large, ← hnv]
                cases hlar : st.large
                · rw [hlar] at hcc
                  simp only [Bool.not_false, Bool.true_and] at hcc
                  rw [hcc]
                  rfl
                · rfl
              rw [hlg]
              exact ⟨rfl, by simp⟩
          · rw [hcc] at h11
            simp only [if_true]
            simp only [Bool.and_eq_true, Bool.not_eq_true'] at hcc
            rw [hcc.2, if_pos rfl] at hnv
            have hlt10 := hx69.next
            refine ⟨L11.chg, _, _, _, _, _, _, numV_good hn9' hden1' hnv.symm, ⟨sl9, rfl, ((fS.chg c10 (.inl (by omega))).chg c11 (.inl (by have := L6.lt; omega))).low (by omega)⟩, hi6, h11, ?_⟩
            rcases hfin with ⟨hn, hbad⟩ | ⟨hsm, _⟩
            · rw [hn]
              exact .inr (hbad.resolve_left (by simp))
            · rw [hsm, ← hnv]
              exact ⟨rfl, rfl, rfl, rfl, by show true = !st.large; rw [hcc.1]; rfl, fun _ => rfl⟩
end Go.Proofs.YtooaafekllkpbaaDoor

/- The reader of expressions, implementation: factors; no condition beyond stated ranges. -/
namespace Go.Proofs.YtooaafekllkpbaaDoor
open Go.Ab
set_option linter.unusedSimpArgs false
set_option linter.unusedVariables false

/-- what is kept of a value -/
def kV (l : Bool) (W : V) : V := if !l && toldB W then W else zV
theorem kV_good {l : Bool} {W : V} (h : toldB W = true → Good W) : Good (kV l W) := by
  unfold kV
  split
  · rename_i hc
    simp only [Bool.and_eq_true] at hc
    exact h hc.2
  · exact zV_good
theorem keep_rel {i : Nat} {m : Int} {l : Bool} {W : V} {op : Option V} (h : l = false → op = if toldB W then some W else none) :
    (!l && toldB W) = !(keepF ⟨i, m, l⟩ op).1.large ∧ ((keepF ⟨i, m, l⟩ op).1.large = false → kV l W = (keepF ⟨i, m, l⟩ op).2) := by
  rw [keepF_large]
  unfold kV
  cases l
  · rw [h rfl]
    cases hT : toldB W
    · simp
    · simp [keepF]
  · simp
theorem iKeepR_ok (lim q : Nat) (s : ByteArray) (i d m : Int) (f l : Bool) (sl : Value) (W : V) (lo : Nat) (H : AHeap) (hq : lim ≤ q) (hqn : q < H.next) (hqlo : q < lo) (hl : lim ≤ H.next) (h : IRd H q s i d m f (!l)) (hs : SlF H lo sl W.ts) (hn : W.ts.length ≤ 100000) (hx : ∀ t ∈ W.ts, exS t) :
    ACalls Tryd.prog lim n_impl_reader_keep [pt q, .agg #[.int .i64 W.den, sl]] H fun v H' => ∃ sl', v = .agg #[.int .i64 (kV l W).den, sl'] ∧ SlF H' lo sl' (kV l W).ts ∧ IRd H' q s i d m f (!l && toldB W) ∧ Chg q H H' := by
  refine (iKeep_ok lim q s i d m f (!l) sl W H hq hqn hl h hs.sl hn hx).mono ?_
  rintro _ H' ⟨rfl, h1, c1⟩
  unfold kV
  cases hc : (!l && toldB W)
  · rw [hc] at h1
    exact ⟨.slice none 0 0, rfl, SlF.nil _ _, h1, c1⟩
  · rw [hc] at h1
    exact ⟨sl, rfl, hs.chg c1 (.inl hqlo), h1, c1⟩
theorem redV_ex {ts : List Tm} {den : Int} (h : ∀ t ∈ ts, exS t) : ∀ t ∈ (redV ts den).ts, exS t := fun t ht => by
  obtain ⟨u, hu, rfl⟩ := List.mem_map.1 ht
  exact h u hu
theorem redV_len (ts : List Tm) (den : Int) : (redV ts den).ts.length = ts.length := by unfold redV; simp
theorem mul_red (A B : V) : mulV A B = if toldB (redV (coll (prodL A.ts B.ts)) (A.den * B.den)) then some (redV (coll (prodL A.ts B.ts)) (A.den * B.den)) else none := mkV_red _ _
theorem add_red {A B : V} (hA : Good A) (hB : Good B) {n : Int} (hn : n = 1 ∨ n = -1) : addV A B n = if toldB (redV (coll (addM A B n)) (A.den * B.den)) then some (redV (coll (addM A B n)) (A.den * B.den)) else none := by
  rw [← add_same hA hB hn]
  exact mkV_red _ _
theorem mul_red_good {A B : V} (hA : Good A) (hB : Good B) (h : toldB (redV (coll (prodL A.ts B.ts)) (A.den * B.den)) = true) : Good (redV (coll (prodL A.ts B.ts)) (A.den * B.den)) :=
  mulV_good hA hB (by rw [mul_red, h]; rfl)
theorem add_red_good {A B : V} (hA : Good A) (hB : Good B) {n : Int} (hn : n = 1 ∨ n = -1) (h : toldB (redV (coll (addM A B n)) (A.den * B.den)) = true) : Good (redV (coll (addM A B n)) (A.den * B.den)) :=
  addV_good hA hB hn (by rw [add_red hA hB hn, h]; rfl)
theorem mul_bn {A B : V} (hA : Good A) (hB : Good B) : ∀ t ∈ coll (prodL A.ts B.ts), exS t := by
  have hbnd := prod_bnd hA hB
  have hlen := prod_len hA hB
  obtain ⟨hcoll, hbn⟩ := put_bn (fun t ht => (hbnd t ht).1) (fun t ht => (hbnd t ht).2) (by omega) (by omega) (by omega)
  exact fun t ht => (hbn t (by rw [hcoll]; exact ht)).2
theorem add_bn {A B : V} (hA : Good A) (hB : Good B) {n : Int} (hn : n = 1 ∨ n = -1) : ∀ t ∈ coll (addM A B n), exS t := by
  have hbnd := addM_bnd hA hB hn
  have hlen := addM_length hA hB n
  obtain ⟨hcoll, hbn⟩ := put_bn (fun t ht => (hbnd t ht).1) (fun t ht => (hbnd t ht).2) (by omega) (by omega) (by omega)
  exact fun t ht => (hbn t (by rw [hcoll]; exact ht)).2

theorem iFactor_ok (lim q : Nat) (s : ByteArray) (d : Int) (F : PF) (hq : lim ≤ q) (hs : s.size ≤ 100) (hadv : Adv s F) (hF : IOk lim q s d n_impl_reader_base F) :
    IOk lim q s d n_impl_reader_factor (pFactor s F) := by
  intro H st hl hqn hi h
  refine is_impl_reader_factor.go rfl ?_
  unfold c_impl_reader_factor
  refine s_reg ?_
  simp only [o_eff, o_nil, EOp.ev, env0, gu, setD, List.set, Option.some.injEq, exists_eq_left']
  have L1 := Loc.mk' (Chg.refl q H) [.int .i64 0, .slice none 0 0]
  replace h := h.ext (Ext.alloc H [.int .i64 0, .slice none 0 0]) hqn
  generalize H.alloc [.int .i64 0, .slice none 0 0] = H1 at L1 h ⊢
  have hn1 := L1.lt
  generalize hp1 : H.next = p1 at L1 hn1
  refine s_reg ?_
  simp only [o_pure, o_callF, POp.ev, Opd.ev, gv, setD, List.map, Option.some.injEq, exists_eq_left']
  refine (hF H1 st (by omega) (by omega) hi h).mono ?_
  intro v H2 hr
  obtain ⟨c2, X, slx, i6, d6, m6, f6, t6, rfl, gX, fX, h2, hi6, hcase⟩ := ResI.cases hadv hr
  clear hr h
  have hn2 := c2.next
  simp only [o_cont, o_eff, o_nil, Opd.ev, EOp.ev, gv, setD, List.set, Option.some.injEq, exists_eq_left', store2_new (lim := lim) (H := H2) (by omega)]
  replace L1 := L1.step c2 hqn
  have L2 := Loc.mk' L1.chg [.int .i64 X.den, slx]
  have hlt1 := L1.lt
  have hx3 := Ext.alloc H2 [.int .i64 X.den, slx]
  replace L1 := L1.ext hx3
  replace h2 := h2.ext hx3 (by omega)
  have fX2 := (fX.held [] (by simp)).more (Nat.le_refl H2.next)
  replace fX2 := fX2.ext hx3
  generalize H2.alloc [.int .i64 X.den, slx] = H3 at L1 L2 hx3 h2 fX2 ⊢
  have hn3 := hx3.next
  generalize H2.next = p2 at L2 hx3 fX2 hlt1 hn3 hn2
  clear fX
  refine s_assoc ?_
  refine s_reg ?_
  simp only [o_pure, o_callF, POp.ev, Opd.ev, gv, setD, List.map, Option.some.injEq, exists_eq_left']
  refine (iNext_ok lim q _ s i6 d6 m6 f6 t6 H3 hq (by omega) h2).mono ?_
  rintro _ H4 ⟨rfl, h4, c4⟩
  rw [hit_hat] at h4 ⊢
  simp only [o_cont, o_pure, o_nil, POp.ev, Opd.ev, gv, setD, List.set, Option.some.injEq, exists_eq_left', extV, List.getElem?_toArray, List.getElem?_cons_zero, List.getElem?_cons_succ]
  replace L1 := L1.step c4 hqn
  replace L2 := L2.step c4 hqn
  replace fX2 := fX2.chg c4 (.inr (by omega))
  have hn4 := c4.next
  have hlt2 := L2.lt
  have hge2 := L2.ge
  have hge1 := L1.ge
  clear h2 c4
  have hi7 : (if decide (ch s i6 = 94) = true then i6 + 1 else i6) ≤ s.size := by
    split
    · exact ch_lt (s := s) (i := i6) (by simp_all)
    · exact hi6
  obtain ⟨i7, hi7e⟩ : ∃ i7, i7 = if decide (ch s i6 = 94) = true then i6 + 1 else i6 := ⟨_, rfl⟩
  rw [← hi7e] at h4 hi7
  refine s_test_same (!decide (ch s i6 = 94) || !f6) ?_ (fun hno => ?_) (fun hyes => ?_)
  · cases h94 : decide (ch s i6 = 94)
    · simp only [o_pure, o_guard, gk_tf, o_nil, POp.ev, Opd.ev, gv, setD, Option.some.injEq, exists_eq_left', pickV, unV, Bool.not_false]
      simp
    · simp only [o_pure, o_guard, gk_ff, o_nil, POp.ev, Opd.ev, gv, setD, Option.some.injEq, exists_eq_left', pickV, load1V, nilchkV, unV, fadV, Bool.not_true, Nat.zero_add, h4.c4]
      simp
  · obtain ⟨H5, e5, L5, c5, n5⟩ := L1.put2 hl (.int .i64 X.den) slx
    refine s_reg ?_
    simp only [o_pure, o_eff, o_nil, POp.ev, Opd.ev, EOp.ev, gv, setD, Option.some.injEq, exists_eq_left', L2.load2, e5]
    refine s_ret1 ?_
    simp +decide only [p_seq_ret, p_fin_ret, resV, resOne, gv, Option.some.injEq, exists_eq_left', L5.load2]
    have h5 := h4.over c5 (by omega) (by omega)
    refine ⟨L5.chg, X, _, _, _, _, _, gX, ⟨slx, rfl, (fX2.chg c5 (.inr (by omega))).slf.low (by omega)⟩, hi7, h5, ?_⟩
    unfold pFactor
    by_cases h94 : ch s i6 = 94
    · have hf6 : f6 = false := by simpa [h94] using hno
      rcases hcase with ⟨hn, hbad⟩ | ⟨l6, Y, hsm, e, _⟩
      · rw [hn]; exact .inl hf6
      · rw [hf6] at e; cases e
    · simp only [h94, decide_false, Bool.false_eq_true, if_false] at hi7e
      subst hi7e
      rcases hcase with ⟨hn, hbad⟩ | ⟨l6, Y, hsm, rfl, rfl, rfl, _, _, hXY⟩
      · rw [hn]; exact hbad
      · rw [hsm]
        simp only [Option.bind_some]
        rw [if_neg h94]
        exact ⟨trivial, rfl, trivial, rfl, rfl, hXY⟩
  · simp only [Bool.or_eq_false_iff, Bool.not_eq_false', decide_eq_true_eq] at hyes
    obtain ⟨h94, rfl⟩ := hyes
    simp only [h94, decide_true, if_true] at hi7e
    subst hi7e
    obtain ⟨l6, Y, hsm, rfl, rfl, gY, hXY⟩ : ∃ (l6 : Bool) (Y : V), F st = some (⟨i6, m6, l6⟩, Y) ∧ d6 = d ∧ t6 = !l6 ∧ Good Y ∧ (l6 = false → X = Y) := by
      rcases hcase with ⟨hn, hbad⟩ | ⟨l6, Y, hsm, _, e1, e2, _, e3, e4⟩
      · rcases hbad with e | e
        · cases e
        · rw [h94] at e; cases e
      · exact ⟨l6, Y, hsm, e1, e2, e3, e4⟩
    clear hcase
    have hd94 : decide (ch s i6 = 94) = true := by simp [h94]
    rw [hd94]
    refine s_skip1 ?_
    simp +decide only [p_seq_normal]
    refine s_reg ?_
    simp only [o_pure, o_callF, POp.ev, Opd.ev, gv, setD, List.map, Option.some.injEq, exists_eq_left']
    refine (iNext_ok lim q _ s (i6 + 1) d6 m6 true (!l6) H4 hq (by omega) h4).mono ?_
    rintro _ H5 ⟨rfl, h5, c5⟩
    rw [hit_04] at h5 ⊢
    simp only [o_cont, o_pure, o_nil, POp.ev, Opd.ev, gv, setD, List.set, Option.some.injEq, exists_eq_left', extV, List.getElem?_toArray, List.getElem?_cons_zero, List.getElem?_cons_succ]
    obtain ⟨H6, e6, h6, c6⟩ := h5.s4 hq (decide (48 ≤ ch s (i6 + 1) ∧ ch s (i6 + 1) ≤ 52))
    refine s_reg ?_
    simp only [o_pure, o_eff, o_guard, gk_tt, o_nil, POp.ev, Opd.ev, EOp.ev, gv, setD, Option.some.injEq, exists_eq_left', pickV, load1V, nilchkV, fadV, Nat.zero_add, h5.c4, e6]
    have c46 := c5.trans c6
    replace L1 := L1.step c46 hqn
    replace L2 := L2.step c46 hqn
    replace fX2 := fX2.chg c46 (.inr (by omega))
    have hn6 := c46.next
    clear h5 h4 e6 c5 c6
    have hcb := ch_b s (i6 + 1)
    have hf : fillV [.int .i64 0, .int .i64 0, .int .i64 0, .int .i64 0] [(0, 1, .int .i64 1)] = some [.int .i64 1, .int .i64 0, .int .i64 0, .int .i64 0] := rfl
    have hbs : bsliceH H6 1 [.int .i64 0, .int .i64 0, .int .i64 0, .int .i64 0] [(0, 4, .agg #[.int .i64 1, .int .i64 0, .int .i64 0, .int .i64 0])] = some (.slice (some ⟨H6.next, 0, some 0⟩) 1 1, H6.alloc (tc oneT)) := rfl
    have hF1 := SlF.one H6 oneT H6.next (Nat.le_refl _)
    have hx6 := Ext.alloc H6 (tc oneT)
    have hf2 : fillV [.int .i64 0, .slice none 0 0] [(0, 1, .int .i64 1), (1, 1, .slice (some ⟨H6.next, 0, some 0⟩) 1 1)] = some [.int .i64 1, .slice (some ⟨H6.next, 0, some 0⟩) 1 1] := fill2 rfl rfl
    refine s_reg ?_
    simp only [o_pure, o_eff, o_nil, POp.ev, Opd.ev, EOp.ev, gv, setD, List.set, List.map, Option.map_some, Option.some.injEq, exists_eq_left', hf, hbs, hf2]
    generalize H6.alloc (tc oneT) = H7 at hF1 hx6 ⊢
    generalize Value.slice (some ⟨H6.next, 0, some 0⟩) 1 1 = so at hF1 ⊢
    have hn7 := hx6.next
    simp only [Option.some.injEq, exists_eq_left', store2_new (lim := lim) (H := H7) (by omega)]
    replace L1 := L1.ext hx6
    replace L2 := L2.ext hx6
    replace fX2 := (fX2.ext hx6).more (Nat.le_refl H7.next)
    replace hF1 := (hF1.held [p1] (by simp; omega)).more (Nat.le_refl H7.next)
    replace h6 := h6.ext hx6 (by omega)
    have L4 := Loc.mk' L1.chg [.int .i64 1, so]
    have hx7 := Ext.alloc H7 [.int .i64 1, so]
    have hne14 : p1 < H7.next := L1.lt
    have hne24 : p2 < H7.next := L2.lt
    replace L1 := L1.ext hx7
    replace L2 := L2.ext hx7
    replace fX2 := fX2.ext hx7
    replace hF1 := hF1.ext hx7
    replace h6 := h6.ext hx7 (by omega)
    generalize H7.alloc [.int .i64 1, so] = H8 at L1 L2 L4 hx7 fX2 hF1 h6 ⊢
    have hn8 := hx7.next
    generalize H7.next = p4 at L4 fX2 hF1 hne14 hne24 hn8 hn7 hx7
    clear hx7 hx6
    have w1 : ∀ c : Nat, c ≤ 255 → IntKind.i64.wrap (c : Int) = (c : Int) := by intro c hc; rw [IntKind.wrap_i64]; omega
    have w2 : ∀ c : Nat, c ≤ 255 → IntKind.i64.wrap ((c : Int) - 48) = (c : Int) - 48 := by intro c hc; rw [IntKind.wrap_i64]; omega
    by_cases hdg : 48 ≤ ch s (i6 + 1) ∧ ch s (i6 + 1) ≤ 52
    · have hlt7 := ch_lt (s := s) (i := i6 + 1) (by omega)
      simp only [hdg, and_self, decide_true, if_true] at h6 ⊢
      obtain ⟨n0, hn0⟩ : ∃ n0 : Nat, n0 = ch s (i6 + 1) - 48 := ⟨_, rfl⟩
      have ecn : (ch s (i6 + 1) : Int) - 48 = (n0 : Int) := by omega
      refine s_assoc (s_reg ?_)
      have w5 : IntKind.i64.wrap (n0 : Int) = (n0 : Int) := by rw [IntKind.wrap_i64]; omega
      simp only [o_pure, o_nil, POp.ev, Opd.ev, gv, setD, List.set, Option.some.injEq, exists_eq_left', binV, convV, ne_eq, not_true_eq_false, if_false, w1 _ hcb, ecn, w5]
      refine s_block ?_
      refine s_loop1 (fun k e' H' => ∃ (j : Nat) (su : Value) (U Up : V) (l' : Bool), j + k = n0 ∧ Good U ∧ powP k ⟨i6 + 2, m6, l'⟩ Up Y = powP n0 ⟨i6 + 2, m6, l6⟩ oneV Y ∧ (l' = false → U = Up ∧ X = Y) ∧ Held H' H.next [p4, p1] su U.ts ∧ Held H' H.next [p4, p2] slx X.ts ∧ Loc q H H' p1 [.int .i64 0, .slice none 0 0] ∧ Loc q H H' p2 [.int .i64 X.den, slx] ∧ Loc q H H' p4 [.int .i64 U.den, su] ∧ IRd H' q s ((i6 + 2 : Nat) : Int) d6 m6 true (!l') ∧
        e' = [pt q, pt p1, pt p2, .bool true, .int .u8 (ch s (i6 + 1)), .bool true, pt p4, .int .i64 n0, .int .i64 j]) n0 ⟨0, so, oneV, oneV, l6, by omega, oneV_good, rfl, fun e => ⟨rfl, hXY e⟩, hF1.imp id (fun ⟨b, g1, g2, g3, g4⟩ => ⟨b, by omega, g2, g3, g4⟩), fX2.imp id (fun ⟨b, g1, g2, g3, g4⟩ => ⟨b, by omega, g2, g3, g4⟩), L1, L2, L4, h6, rfl⟩ ?_
      clear hF1 fX2 L1 L2 L4 h6
      rintro k e' H8 ⟨j, su, U, Up, l', hjk, gU, hpow, hrel, hU, hX, L1, L2, L4, h8, rfl⟩
      have hn8 := L1.chg.next
      have hlt8 := L4.lt
      refine s_test ?_
      simp only [o_pure, o_nil, POp.ev, Opd.ev, gv, setD, Option.some.injEq, exists_eq_left', binV, ne_eq, not_true_eq_false, if_false]
      refine Test.split (fun hgt => ?_) (fun hgt => ?_)
      · have hj : j < n0 := by simp at hgt; omega
        obtain ⟨k, rfl⟩ : ∃ k', k = k' + 1 := ⟨k - 1, by omega⟩
        refine s_skip1 ?_
        simp +decide only [p_seq_normal]
        refine s_block ?_
        refine s_reg1 ?_
        simp only [o_pure, o_callF, POp.ev, Opd.ev, gv, setD, List.map, Option.some.injEq, exists_eq_left', L4.load2, L2.load2]
        refine (times_ok lim su slx U X H8 (by omega) hU.sl hX.sl gU gX).mono ?_
        rintro _ H9 ⟨⟨sl2, rfl, fW⟩, hx9⟩
        have hn9 := hx9.next
        obtain ⟨W, hW⟩ : ∃ W, W = redV (coll (prodL U.ts X.ts)) (U.den * X.den) := ⟨_, rfl⟩
        rw [← hW] at fW
        have hcl := coll_length (prodL U.ts X.ts)
        have hpl := prod_len gU gX
        have hWl : W.ts.length ≤ 100000 := by rw [hW, redV_len]; omega
        have hWx : ∀ t ∈ W.ts, exS t := by rw [hW]; exact redV_ex (mul_bn gU gX)
        have gW : toldB W = true → Good W := by rw [hW]; exact mul_red_good gU gX
        simp only [o_cont, o_callF, Opd.ev, gv, setD, List.map]
        rw [← hW]
        refine (iKeepR_ok lim q s ((i6 + 2 : Nat) : Int) d6 m6 true l' sl2 W H8.next H9 hq (by omega) (by omega) (by omega) (h8.ext hx9 (by omega)) fW hWl hWx).mono ?_
        rintro _ H10 ⟨sl3, rfl, fK, h10, c10⟩
        have hn10 := c10.next
        obtain ⟨H11, e11, L11, c11, n11⟩ := ((L4.ext hx9).step c10 hqn).put2 hl (.int .i64 (kV l' W).den) sl3
        simp only [o_cont, o_eff, o_nil, Opd.ev, EOp.ev, gv, setD, Option.some.injEq, exists_eq_left', e11]
        simp +decide only [p_seq_normal, p_block_normal]
        refine s_reg1 ?_
        simp only [o_pure, o_nil, POp.ev, Opd.ev, gv, setD, List.set, Option.some.injEq, exists_eq_left', binV, ne_eq, not_true_eq_false, if_false, add1 (i := j) (by omega)]
        simp +decide only [p_seq_normal]
        have hge4 := L4.ge
        have hX' := ((hX.ext hx9).chg c10 (.inr (by omega))).chg c11 (.inl (by simp))
        have L1' := ((L1.ext hx9).step c10 hqn).other c11 (by omega) hge4
        have L2' := ((L2.ext hx9).step c10 hqn).other c11 (by omega) hge4
        have h11 := h10.over c11 (by omega) (by omega)
        have hp : powP (k + 1) ⟨i6 + 2, m6, l'⟩ Up Y = powP k (keepF ⟨i6 + 2, m6, l'⟩ (mulV Up Y)).1 (keepF ⟨i6 + 2, m6, l'⟩ (mulV Up Y)).2 Y := rfl
        rw [hp] at hpow
        have hkr := keep_rel (i := i6 + 2) (m := m6) (l := l') (W := W) (op := mulV Up Y) (fun e => by
          obtain ⟨rfl, rfl⟩ := hrel e
          rw [mul_red, hW])
        have hst : (keepF ⟨i6 + 2, m6, l'⟩ (mulV Up Y)).1 = ⟨i6 + 2, m6, (keepF ⟨i6 + 2, m6, l'⟩ (mulV Up Y)).1.large⟩ := by
          cases mulV Up Y <;> rfl
        rw [hst] at hpow
        rw [hkr.1] at h11
        have hK := ((fK.held [p4, p1] (by simp; omega)).chg c11 (.inl (by simp)))
        refine Round.mk k (by omega) ⟨j + 1, sl3, kV l' W, _, _, by omega, kV_good gW, hpow, fun e => ⟨hkr.2 e, ?_⟩, hK.imp id (fun ⟨b, g1, g2, g3, g4⟩ => ⟨b, by omega, g2, g3, g4⟩), hX', L1', L2', L11, h11, rfl⟩
        rw [keepF_large] at e
        simp only [Bool.or_eq_false_iff] at e
        exact (hrel e.1).2
      · have hk0 : k = 0 := by simp at hgt; omega
        subst hk0
        refine s_exit1 ?_
        simp +decide only [p_seq_normal, p_seq_exit, p_block_exit, reduceIte]
        obtain ⟨H9, e9, L9, c9, n9⟩ := L1.put2 hl (.int .i64 U.den) su
        refine s_reg ?_
        simp only [o_pure, o_eff, o_nil, POp.ev, Opd.ev, EOp.ev, gv, setD, Option.some.injEq, exists_eq_left', L4.load2, e9]
        refine s_ret1 ?_
        simp +decide only [p_fin_ret, resV, resOne, gv, Option.some.injEq, exists_eq_left', L9.load2]
        have h9 := h8.over c9 (by omega) (by omega)
        refine ⟨L9.chg, U, _, _, _, _, _, gU, ⟨su, rfl, (hU.chg c9 (.inl (by simp))).slf⟩, hlt7, h9, ?_⟩
        unfold pFactor
        rw [hsm]
        simp only [Option.bind_some]
        rw [if_pos h94, if_pos hdg, ← hn0, ← hpow]
        exact ⟨trivial, rfl, trivial, rfl, rfl, fun e => (hrel e).1⟩
    · simp only [hdg, decide_false, if_false, Bool.false_eq_true] at h6 ⊢
      refine s_assoc (s_reg ?_)
      have w3 : IntKind.i64.wrap 0 = 0 := rfl
      have w4 : IntKind.i64.wrap (0 - 48) = -48 := rfl
      simp only [o_pure, o_nil, POp.ev, Opd.ev, gv, setD, List.set, Option.some.injEq, exists_eq_left', binV, convV, ne_eq, not_true_eq_false, if_false, w3, w4]
      refine s_block ?_
      refine s_loop1 (fun k e' H' => H' = H8 ∧ e' = [pt q, pt p1, pt p2, .bool true, .int .u8 0, .bool false, pt p4, .int .i64 (-48), .int .i64 0]) 0 ⟨rfl, rfl⟩ ?_
      rintro k e' H' ⟨rfl, rfl⟩
      refine s_test ?_
      simp only [o_pure, o_nil, POp.ev, Opd.ev, gv, setD, Option.some.injEq, exists_eq_left', binV, ne_eq, not_true_eq_false, if_false]
      refine Test.split (fun hgt => ?_) (fun hgt => ?_)
      · exact absurd hgt (by decide)
      · refine s_exit1 ?_
        simp +decide only [p_seq_normal, p_seq_exit, p_block_exit, reduceIte]
        obtain ⟨H9, e9, L9, c9, n9⟩ := L1.put2 hl (.int .i64 1) so
        refine s_reg ?_
        simp only [o_pure, o_eff, o_nil, POp.ev, Opd.ev, EOp.ev, gv, setD, Option.some.injEq, exists_eq_left', L4.load2, e9]
        refine s_ret1 ?_
        simp +decide only [p_fin_ret, resV, resOne, gv, Option.some.injEq, exists_eq_left', L9.load2]
        have hge4 := L4.ge
        have h9 := h6.over c9 (by omega) (by omega)
        refine ⟨L9.chg, oneV, _, _, _, _, _, oneV_good, ⟨so, rfl, (hF1.chg c9 (.inl (by simp))).slf.low (by omega)⟩, ?_, h9, ?_⟩
        · exact hi7
        · unfold pFactor
          rw [hsm]
          simp only [Option.bind_some]
          rw [if_pos h94, if_neg hdg]
          exact .inl trivial
end Go.Proofs.YtooaafekllkpbaaDoor

/- The reader of expressions, implementation: products and sums; no condition beyond stated ranges. -/
namespace Go.Proofs.YtooaafekllkpbaaDoor
open Go.Ab
set_option linter.unusedSimpArgs false
set_option linter.unusedVariables false

/-- a value that is too great is not forgotten -/
def Stk (f : PF) : Prop := ∀ st r, f st = some r → st.large = true → r.1.large = true
theorem stk_base {s : ByteArray} {d : Int} {S : Option PF} (hS : ∀ f, S = some f → Stk f) : Stk (pBase s d S) := by
  intro st r h hl
  unfold pBase at h
  split at h
  · cases h; exact hl
  · split at h
    · obtain ⟨f, hf, h⟩ := Option.bind_eq_some_iff.1 h
      obtain ⟨q, hq, h⟩ := Option.bind_eq_some_iff.1 h
      split at h
      · cases h
        have := hS f hf _ _ hq hl
        exact this
      · cases h
    · obtain ⟨a, ha, h⟩ := Option.bind_eq_some_iff.1 h
      split at h
      · obtain ⟨b, hb, h⟩ := Option.bind_eq_some_iff.1 h
        split at h
        · cases h
        · cases h; rw [keepF_large]; simp [hl]
      · cases h; rw [keepF_large]; simp [hl]
theorem stk_powP : ∀ (n : Nat) (st : St) (out b : V), st.large = true → (powP n st out b).1.large = true
  | 0, st, out, b, h => h
  | n + 1, st, out, b, h => stk_powP n _ _ _ (by rw [keepF_large]; simp [h])
theorem stk_factor {s : ByteArray} {B : PF} (hB : Stk B) : Stk (pFactor s B) := by
  intro st r h hl
  unfold pFactor at h
  obtain ⟨q, hq, h⟩ := Option.bind_eq_some_iff.1 h
  have h1 := hB _ _ hq hl
  split at h
  · split at h
    · cases h; exact stk_powP _ _ _ _ h1
    · cases h
  · cases h; exact h1
theorem stk_prodLoop {s : ByteArray} {F : PF} (hF : Stk F) : ∀ (k : Nat) (st : St) (v : V) (r : St × V), prodLoop s F k st v = some r → st.large = true → r.1.large = true
  | 0, st, v, r, h, _ => by cases h
  | k + 1, st, v, r, h, hl => by
    unfold prodLoop at h
    split at h
    · obtain ⟨q, hq, h⟩ := Option.bind_eq_some_iff.1 h
      exact stk_prodLoop hF k _ _ r h (by rw [keepF_large, hF _ _ hq hl]; rfl)
    · cases h; exact hl
theorem stk_prod {s : ByteArray} {F : PF} (hF : Stk F) : Stk (pProd s F) := by
  intro st r h hl
  unfold pProd at h
  obtain ⟨q, hq, h⟩ := Option.bind_eq_some_iff.1 h
  exact stk_prodLoop hF _ _ _ _ h (hF _ _ hq hl)
theorem stk_sumLoop {s : ByteArray} {F : PF} (hF : Stk F) : ∀ (k : Nat) (st : St) (v : V) (r : St × V), sumLoop s F k st v = some r → st.large = true → r.1.large = true
  | 0, st, v, r, h, _ => by cases h
  | k + 1, st, v, r, h, hl => by
    unfold sumLoop at h
    split at h
    · obtain ⟨q, hq, h⟩ := Option.bind_eq_some_iff.1 h
      exact stk_sumLoop hF k _ _ r h (by rw [keepF_large, hF _ _ hq hl]; rfl)
    · cases h; exact hl
theorem stk_sum {s : ByteArray} {F : PF} (hF : Stk F) : Stk (pSumF s F) := by
  intro st r h hl
  unfold pSumF at h
  split at h
  · obtain ⟨q, hq, h⟩ := Option.bind_eq_some_iff.1 h
    exact stk_sumLoop hF _ _ _ _ h (by rw [keepF_large, hF _ _ hq hl]; rfl)
  · obtain ⟨q, hq, h⟩ := Option.bind_eq_some_iff.1 h
    exact stk_sumLoop hF _ _ _ _ h (hF _ _ hq hl)
theorem stk_pS (s : ByteArray) : ∀ k, Stk (pS s k)
  | 0 => stk_sum (stk_prod (stk_factor (stk_base (by intro f h; cases h))))
  | k + 1 => stk_sum (stk_prod (stk_factor (stk_base (by intro f h; cases h; exact stk_pS s k))))

def mu (s : ByteArray) (f : Bool) (i : Nat) : Nat := if f = true ∧ isD (ch s i) = false then s.size + 1 - i else 0
theorem mu_stuck {s : ByteArray} {f : Bool} {i : Nat} (h : f = false ∨ isD (ch s i) = true) : mu s f i = 0 := by
  unfold mu
  rw [if_neg]
  rintro ⟨h1, h2⟩
  rcases h with h | h
  · rw [h] at h1; cases h1
  · rw [h] at h2; cases h2
theorem mu_le (s : ByteArray) (f : Bool) (i : Nat) : mu s f i ≤ s.size + 1 - i := by
  unfold mu
  split <;> omega

theorem iProd_ok (lim q : Nat) (s : ByteArray) (d : Int) (F : PF) (hq : lim ≤ q) (hs : s.size ≤ 100) (hadv : Adv s F) (hstk : Stk F) (hF : IOk lim q s d n_impl_reader_factor F) :
    IOk lim q s d n_impl_reader_product (pProd s F) := by
  intro H st hl hqn hi h
  refine is_impl_reader_product.go rfl ?_
  unfold c_impl_reader_product
  refine s_reg ?_
  simp only [o_eff, o_nil, EOp.ev, env0, gu, setD, List.set, Option.some.injEq, exists_eq_left']
  have L1 := Loc.mk' (Chg.refl q H) [.int .i64 0, .slice none 0 0]
  replace h := h.ext (Ext.alloc H [.int .i64 0, .slice none 0 0]) hqn
  generalize H.alloc [.int .i64 0, .slice none 0 0] = H1 at L1 h ⊢
  have hn1 := L1.lt
  generalize hp1 : H.next = p1 at L1 hn1
  refine s_reg ?_
  simp only [o_pure, o_callF, POp.ev, Opd.ev, gv, setD, List.map, Option.some.injEq, exists_eq_left']
  refine (hF H1 st (by omega) (by omega) hi h).mono ?_
  intro v H2 hr
  obtain ⟨c2, X, slx, i6, d6, m6, f6, t6, rfl, gX, fX, h2, hi6, hcase⟩ := ResI.cases hadv hr
  clear hr h
  have hn2 := c2.next
  simp only [o_cont, o_eff, o_nil, Opd.ev, EOp.ev, gv, setD, List.set, Option.some.injEq, exists_eq_left', store2_new (lim := lim) (H := H2) (by omega)]
  replace L1 := L1.step c2 hqn
  have L2 := Loc.mk' L1.chg [.int .i64 X.den, slx]
  have hlt1 := L1.lt
  have hx3 := Ext.alloc H2 [.int .i64 X.den, slx]
  replace L1 := L1.ext hx3
  replace h2 := h2.ext hx3 (by omega)
  have fX2 := (fX.held [p1] (by simp; omega)).more (Nat.le_refl H2.next)
  replace fX2 := fX2.ext hx3
  generalize H2.alloc [.int .i64 X.den, slx] = H3 at L1 L2 hx3 h2 fX2 ⊢
  have hn3 := hx3.next
  generalize H2.next = p2 at L2 hx3 fX2 hlt1 hn3 hn2
  clear fX
  obtain ⟨R, hR⟩ : ∃ R, R = pProd s F st := ⟨_, rfl⟩
  have hcase2 : (R = none ∧ (f6 = false ∨ isD (ch s i6) = true)) ∨ (f6 = true ∧ d6 = d ∧ ∃ (k : Nat) (l6 : Bool) (Up : V), t6 = !l6 ∧ s.size + 1 ≤ k + i6 ∧ R = prodLoop s F k ⟨i6, m6, l6⟩ Up ∧ (l6 = false → X = Up)) := by
    rcases hcase with ⟨hn, hbad⟩ | ⟨l6, Y, hsm, e1, e2, e3, _, _, hXY⟩
    · exact .inl ⟨by rw [hR]; unfold pProd; rw [hn]; rfl, hbad⟩
    · exact .inr ⟨e1, e2, s.size + 1, l6, Y, e3, by omega, by rw [hR]; unfold pProd; rw [hsm]; rfl, hXY⟩
  clear hcase
  rw [← hR]
  refine s_cut (fun e' H' => ∃ (su x3 : Value) (U : V) (i6 : Nat) (d6 m6 : Int) (f6 t6 : Bool), Good U ∧ Held H' H.next [p2, p1] su U.ts ∧ Loc q H H' p1 [.int .i64 0, .slice none 0 0] ∧ Loc q H H' p2 [.int .i64 U.den, su] ∧ IRd H' q s i6 d6 m6 f6 t6 ∧ i6 ≤ s.size ∧ (f6 = false ∨ ¬ ch s i6 = 42) ∧
    ((R = none ∧ (f6 = false ∨ isD (ch s i6) = true)) ∨ (f6 = true ∧ d6 = d ∧ ∃ (k : Nat) (l6 : Bool) (Up : V), t6 = !l6 ∧ s.size + 1 ≤ k + i6 ∧ R = prodLoop s F k ⟨i6, m6, l6⟩ Up ∧ (l6 = false → U = Up))) ∧ e' = [pt q, pt p1, pt p2, x3]) ?_ ?_
  · refine s_block1 ?_
    refine s_loop1 (fun k e' H' => ∃ (su x3 : Value) (U : V) (i6 : Nat) (d6 m6 : Int) (f6 t6 : Bool), k = mu s f6 i6 ∧ Good U ∧ Held H' H.next [p2, p1] su U.ts ∧ Loc q H H' p1 [.int .i64 0, .slice none 0 0] ∧ Loc q H H' p2 [.int .i64 U.den, su] ∧ IRd H' q s i6 d6 m6 f6 t6 ∧ i6 ≤ s.size ∧
      ((R = none ∧ (f6 = false ∨ isD (ch s i6) = true)) ∨ (f6 = true ∧ d6 = d ∧ ∃ (k : Nat) (l6 : Bool) (Up : V), t6 = !l6 ∧ s.size + 1 ≤ k + i6 ∧ R = prodLoop s F k ⟨i6, m6, l6⟩ Up ∧ (l6 = false → U = Up))) ∧ e' = [pt q, pt p1, pt p2, x3]) _ ⟨slx, _, X, i6, d6, m6, f6, t6, rfl, gX, fX2.imp id (fun ⟨b, g1, g2, g3, g4⟩ => ⟨b, by omega, g2, g3, g4⟩), L1, L2, h2, hi6, hcase2, rfl⟩ ?_
    clear fX2 L1 L2 h2 hcase2 gX hi6 hx3 hn3
    rintro kk e' H3 ⟨su, x3, U, i6, d6, m6, f6, t6, rfl, gU, hU, L1, L2, h3, hi6, hcase, rfl⟩
    have hn3 := L1.chg.next
    have hge1 := L1.ge
    have hge2 := L2.ge
    have hlt2 := L2.lt
    refine s_test ?_
    simp only [o_pure, o_nil, POp.ev, Opd.ev, gv, setD, Option.some.injEq, exists_eq_left', load1V, nilchkV, fadV, Nat.zero_add, h3.c4]
    cases hf6 : f6
    · refine Test.false_ (s_exit1 ?_)
      simp +decide only [p_seq_normal, p_seq_exit, p_block_exit, reduceIte]
      exact ⟨su, x3, U, i6, d6, m6, f6, t6, gU, hU, L1, L2, h3, hi6, .inl hf6, hcase, rfl⟩
    · refine Test.true_ (s_skip1 ?_)
      simp +decide only [p_seq_normal]
      refine s_block1 ?_
      refine s_assoc ?_
      refine s_reg ?_
      simp only [o_pure, o_callF, POp.ev, Opd.ev, gv, setD, List.map, Option.some.injEq, exists_eq_left']
      refine (iNext_ok lim q _ s i6 d6 m6 f6 t6 H3 hq (by omega) h3).mono ?_
      rintro _ H4 ⟨rfl, h4, c4⟩
      rw [hit_times] at h4 ⊢
      simp only [o_cont, o_pure, o_nil, POp.ev, Opd.ev, gv, setD, List.set, Option.some.injEq, exists_eq_left', extV, List.getElem?_toArray, List.getElem?_cons_zero, List.getElem?_cons_succ]
      have hn4 := c4.next
      replace L1 := L1.step c4 hqn
      replace L2 := L2.step c4 hqn
      replace hU := hU.chg c4 (.inr (by omega))
      refine s_test ?_
      simp only [o_pure, o_nil, POp.ev, Opd.ev, gv, setD, Option.some.injEq, exists_eq_left', unV]
      by_cases h42 : ch s i6 = 42
      · have hlt6 := ch_lt (s := s) (i := i6) (by omega)
        simp only [h42, decide_true, if_true, Bool.not_true] at h4 ⊢
        refine Test.false_ (s_skip1 ?_)
        simp +decide only [p_seq_normal]
        obtain ⟨_, rfl, k, l6, Up, rfl, hk, hRk, hUp⟩ := hcase.resolve_left (by
          rintro ⟨_, e | e⟩
          · rw [hf6] at e; cases e
          · rw [h42] at e; cases e)
        obtain ⟨k, rfl⟩ : ∃ k', k = k' + 1 := ⟨k - 1, by omega⟩
        have hun : prodLoop s F (k + 1) ⟨i6, m6, l6⟩ Up = (F ⟨i6 + 1, m6, l6⟩).bind fun r => prodLoop s F k (keepF r.1 (mulV Up r.2)).1 (keepF r.1 (mulV Up r.2)).2 := by
          rw [prodLoop, if_pos h42]
        rw [hun] at hRk
        have hmu : mu s true i6 = s.size + 1 - i6 := by
          unfold mu
          rw [if_pos ⟨rfl, by rw [h42]; rfl⟩]
        rw [hmu]
        subst hf6
        have hcall := hF H4 ⟨i6 + 1, m6, l6⟩ (by omega) (by omega) hlt6 h4
        refine s_regT1 ?_
        simp only [o_pure, o_eff, o_callF, t_op, t_alt, t_nil, o_nil, POp.ev, Opd.ev, EOp.ev, gv, setD, List.map, Option.map_some, Option.some.injEq, exists_eq_left', L2.load2]
        refine ⟨?_, ?_⟩
        ·
          refine hcall.mono ?_
          intro v H9 hr
          obtain ⟨c9, X, slx, i7, d7, m7, f7, t7, rfl, gX, fX, h9, hi7, hcase7⟩ := ResI.cases hadv hr
          obtain ⟨l7, rfl⟩ : ∃ l7, t7 = !l7 := ⟨!t7, by simp⟩
          have hn9 := c9.next
          have L19 := L1.step c9 hqn
          have L29 := L2.step c9 hqn
          have hU9 := hU.chg c9 (.inr (by omega))
          simp only [o_cont, o_nil, gv, setD]
          refine (times_ok lim su slx U X H9 (by omega) hU9.sl fX.sl gU gX).mono ?_
          rintro _ H10 ⟨⟨sl2, rfl, fW⟩, hx10⟩
          have hn10 := hx10.next
          obtain ⟨W, hW⟩ : ∃ W, W = redV (coll (prodL U.ts X.ts)) (U.den * X.den) := ⟨_, rfl⟩
          rw [← hW] at fW
          have hcl := coll_length (prodL U.ts X.ts)
          have hpl := prod_len gU gX
          have hWl : W.ts.length ≤ 100000 := by rw [hW, redV_len]; omega
          have hWx : ∀ t ∈ W.ts, exS t := by rw [hW]; exact redV_ex (mul_bn gU gX)
          have gW : toldB W = true → Good W := by rw [hW]; exact mul_red_good gU gX
          simp only [o_cont, o_nil, gv, setD]
          rw [← hW]
          refine (iKeepR_ok lim q s i7 d7 m7 f7 l7 sl2 W H9.next H10 hq (by omega) (by omega) (by omega) (h9.ext hx10 (by omega)) fW hWl hWx).mono ?_
          rintro _ H11 ⟨sl3, rfl, fK, h11, c11⟩
          have hn11 := c11.next
          obtain ⟨H12, e12, L12, c12, n12⟩ := ((L29.ext hx10).step c11 hqn).put2 hl (.int .i64 (kV l7 W).den) sl3
          simp only [o_cont, o_nil, gv, setD, Option.some.injEq, exists_eq_left', e12]
          try simp +decide only [p_seq_normal, p_block_normal]
          have hge2' := L29.ge
          have L112 := ((L19.ext hx10).step c11 hqn).other c12 (by omega) hge2'
          have h12 := h11.over c12 (by omega) (by omega)
          have hK := ((fK.held [p2, p1] (by simp; omega)).chg c12 (.inl (by simp)))
          refine Round.mk _ ?_ ⟨sl3, _, kV l7 W, i7, d7, m7, f7, _, rfl, kV_good gW, hK.imp id (fun ⟨b, g1, g2, g3, g4⟩ => ⟨b, by omega, g2, g3, g4⟩), L112, L12, h12, hi7, ?_, rfl⟩
          · rcases hcase7 with ⟨_, hbad⟩ | ⟨lr, Y, _, _, _, _, g1, _, _⟩
            · rw [mu_stuck hbad]; omega
            · have := mu_le s f7 i7
              simp only at g1
              omega
          · rcases hcase7 with ⟨hn, hbad⟩ | ⟨lr, Y, hsm, rfl, rfl, elr, g1, gY, hXY⟩
            · rw [hn] at hRk
              exact .inl ⟨hRk, hbad⟩
            · have elr' : l7 = lr := by cases l7 <;> cases lr <;> first | rfl | cases elr
              subst elr'
              rw [hsm, Option.bind_some] at hRk
              simp only at g1
              have hkr := keep_rel (i := i7) (m := m7) (l := l7) (W := W) (op := mulV Up Y) (fun e => by
                have e6 : l6 = false := by
                  cases hl6 : l6
                  · rfl
                  · have := hstk _ _ hsm hl6
                    simp only at this
                    rw [e] at this; cases this
                rw [← hUp e6, ← hXY e, hW]
                exact mul_red U X)
              have hst : (keepF ⟨i7, m7, l7⟩ (mulV Up Y)).1 = ⟨i7, m7, (keepF ⟨i7, m7, l7⟩ (mulV Up Y)).1.large⟩ := by
                cases mulV Up Y <;> rfl
              rw [hst] at hRk
              exact .inr ⟨rfl, rfl, k, _, _, hkr.1, by omega, hRk, hkr.2⟩
        ·
          refine hcall.mono ?_
          intro v H9 hr
          obtain ⟨c9, X, slx, i7, d7, m7, f7, t7, rfl, gX, fX, h9, hi7, hcase7⟩ := ResI.cases hadv hr
          obtain ⟨l7, rfl⟩ : ∃ l7, t7 = !l7 := ⟨!t7, by simp⟩
          have hn9 := c9.next
          have L19 := L1.step c9 hqn
          have L29 := L2.step c9 hqn
          have hU9 := hU.chg c9 (.inr (by omega))
          simp only [o_cont, o_nil, gv, setD, Option.map_some, Option.some.injEq, exists_eq_left', L29.load2]
          refine (times_ok lim su slx U X H9 (by omega) hU9.sl fX.sl gU gX).mono ?_
          rintro _ H10 ⟨⟨sl2, rfl, fW⟩, hx10⟩
          have hn10 := hx10.next
          obtain ⟨W, hW⟩ : ∃ W, W = redV (coll (prodL U.ts X.ts)) (U.den * X.den) := ⟨_, rfl⟩
          rw [← hW] at fW
          have hcl := coll_length (prodL U.ts X.ts)
          have hpl := prod_len gU gX
          have hWl : W.ts.length ≤ 100000 := by rw [hW, redV_len]; omega
          have hWx : ∀ t ∈ W.ts, exS t := by rw [hW]; exact redV_ex (mul_bn gU gX)
          have gW : toldB W = true → Good W := by rw [hW]; exact mul_red_good gU gX
          simp only [o_cont, o_nil, gv, setD]
          rw [← hW]
          refine (iKeepR_ok lim q s i7 d7 m7 f7 l7 sl2 W H9.next H10 hq (by omega) (by omega) (by omega) (h9.ext hx10 (by omega)) fW hWl hWx).mono ?_
          rintro _ H11 ⟨sl3, rfl, fK, h11, c11⟩
          have hn11 := c11.next
          obtain ⟨H12, e12, L12, c12, n12⟩ := ((L29.ext hx10).step c11 hqn).put2 hl (.int .i64 (kV l7 W).den) sl3
          simp only [o_cont, o_nil, gv, setD, Option.some.injEq, exists_eq_left', e12]
          try simp +decide only [p_seq_normal, p_block_normal]
          have hge2' := L29.ge
          have L112 := ((L19.ext hx10).step c11 hqn).other c12 (by omega) hge2'
          have h12 := h11.over c12 (by omega) (by omega)
          have hK := ((fK.held [p2, p1] (by simp; omega)).chg c12 (.inl (by simp)))
          refine Round.mk _ ?_ ⟨sl3, _, kV l7 W, i7, d7, m7, f7, _, rfl, kV_good gW, hK.imp id (fun ⟨b, g1, g2, g3, g4⟩ => ⟨b, by omega, g2, g3, g4⟩), L112, L12, h12, hi7, ?_, rfl⟩
          · rcases hcase7 with ⟨_, hbad⟩ | ⟨lr, Y, _, _, _, _, g1, _, _⟩
            · rw [mu_stuck hbad]; omega
            · have := mu_le s f7 i7
              simp only at g1
              omega
          · rcases hcase7 with ⟨hn, hbad⟩ | ⟨lr, Y, hsm, rfl, rfl, elr, g1, gY, hXY⟩
            · rw [hn] at hRk
              exact .inl ⟨hRk, hbad⟩
            · have elr' : l7 = lr := by cases l7 <;> cases lr <;> first | rfl | cases elr
              subst elr'
              rw [hsm, Option.bind_some] at hRk
              simp only at g1
              have hkr := keep_rel (i := i7) (m := m7) (l := l7) (W := W) (op := mulV Up Y) (fun e => by
                have e6 : l6 = false := by
                  cases hl6 : l6
                  · rfl
                  · have := hstk _ _ hsm hl6
                    simp only at this
                    rw [e] at this; cases this
                rw [← hUp e6, ← hXY e, hW]
                exact mul_red U X)
              have hst : (keepF ⟨i7, m7, l7⟩ (mulV Up Y)).1 = ⟨i7, m7, (keepF ⟨i7, m7, l7⟩ (mulV Up Y)).1.large⟩ := by
                cases mulV Up Y <;> rfl
              rw [hst] at hRk
              exact .inr ⟨rfl, rfl, k, _, _, hkr.1, by omega, hRk, hkr.2⟩
      · simp only [h42, decide_false, if_false, Bool.false_eq_true, Bool.not_false] at h4 ⊢
        refine Test.true_ (s_exit1 ?_)
        simp +decide only [p_seq_normal, p_seq_exit, p_block_exit, reduceIte]
        exact ⟨su, _, U, i6, d6, m6, f6, t6, gU, hU, L1, L2, h4, hi6, .inr h42, hcase, rfl⟩
  · clear fX2 L1 L2 h2 hcase2 gX hi6 hx3 hn3
    rintro e' H3 ⟨su, x3, U, i6, d6, m6, f6, t6, gU, hU, L1, L2, h3, hi6, hstop, hcase, rfl⟩
    have hn3 := L1.chg.next
    have hge1 := L1.ge
    obtain ⟨H9, e9, L9, c9, n9⟩ := L1.put2 hl (.int .i64 U.den) su
    refine s_reg ?_
    simp only [o_pure, o_eff, o_nil, POp.ev, Opd.ev, EOp.ev, gv, setD, Option.some.injEq, exists_eq_left', L2.load2, e9]
    refine s_ret1 ?_
    simp +decide only [p_fin_ret, resV, resOne, gv, Option.some.injEq, exists_eq_left', L9.load2]
    have h9 := h3.over c9 (by omega) (by omega)
    refine ⟨L9.chg, U, _, _, _, _, _, gU, ⟨su, rfl, (hU.chg c9 (.inl (by simp))).slf⟩, hi6, h9, ?_⟩
    rcases hcase with ⟨hn, hbad⟩ | ⟨rfl, rfl, k, l6, Up, rfl, hk, hRk, hUp⟩
    · rw [hn]
      exact hbad
    · obtain ⟨k, rfl⟩ : ∃ k', k = k' + 1 := ⟨k - 1, by omega⟩
      rw [hRk, prodLoop, if_neg (by simpa using hstop)]
      exact ⟨rfl, rfl, rfl, rfl, rfl, hUp⟩
end Go.Proofs.YtooaafekllkpbaaDoor

/- The reader of expressions, implementation: sums, and the whole reader; no condition beyond stated ranges. -/
namespace Go.Proofs.YtooaafekllkpbaaDoor
open Go.Ab
set_option linter.unusedSimpArgs false
set_option linter.unusedVariables false

theorem iSum_ok (lim q : Nat) (s : ByteArray) (d : Int) (F : PF) (hq : lim ≤ q) (hs : s.size ≤ 100) (hadv : Adv s F) (hstk : Stk F) (hF : IOk lim q s d n_impl_reader_product F) :
    IOk lim q s d n_impl_reader_sum (pSumF s F) := by
  intro H st hl hqn hi h
  refine is_impl_reader_sum.go rfl ?_
  unfold c_impl_reader_sum
  refine s_reg ?_
  simp only [o_eff, o_nil, EOp.ev, env0, gu, setD, List.set, Option.some.injEq, exists_eq_left']
  have L1 := Loc.mk' (Chg.refl q H) [.int .i64 0, .slice none 0 0]
  replace h := h.ext (Ext.alloc H [.int .i64 0, .slice none 0 0]) hqn
  generalize H.alloc [.int .i64 0, .slice none 0 0] = H1 at L1 h ⊢
  have hn1 := L1.lt
  have hnx1 := L1.chg.next
  generalize hp1 : H.next = p1 at L1 hn1
  refine s_reg ?_
  simp only [o_pure, o_callF, POp.ev, Opd.ev, gv, setD, List.map, Option.some.injEq, exists_eq_left']
  refine (iNext_ok lim q _ s st.i d st.most true (!st.large) H1 hq (by omega) h).mono ?_
  rintro _ H0 ⟨rfl, h0, c0⟩
  rw [hit_minus] at h0 ⊢
  simp only [o_cont, o_pure, o_nil, POp.ev, Opd.ev, gv, setD, List.set, Option.some.injEq, exists_eq_left', extV, List.getElem?_toArray, List.getElem?_cons_zero, List.getElem?_cons_succ]
  have hn0 := c0.next
  replace L1 := L1.step c0 hqn
  clear h
  obtain ⟨i0, hi0⟩ : ∃ i0, i0 = if decide (ch s st.i = 45) = true then st.i + 1 else st.i := ⟨_, rfl⟩
  rw [← hi0] at h0
  have hi0s : i0 ≤ s.size := by
    rw [hi0]
    split
    · exact ch_lt (s := s) (i := st.i) (by simp_all)
    · exact hi
  refine s_reg ?_
  simp only [o_pure, o_callF, POp.ev, Opd.ev, gv, setD, List.map, Option.some.injEq, exists_eq_left']
  refine (hF H0 ⟨i0, st.most, st.large⟩ (by omega) (by omega) hi0s h0).mono ?_
  intro v H2 hr
  obtain ⟨c2, X, slx, i6, d6, m6, f6, t6, rfl, gX, fX, h2, hi6, hcase⟩ := ResI.cases hadv hr
  clear hr h0
  have hn2 := c2.next
  simp only [o_cont, o_eff, o_nil, Opd.ev, EOp.ev, gv, setD, List.set, Option.some.injEq, exists_eq_left', store2_new (lim := lim) (H := H2) (by omega)]
  replace L1 := L1.step c2 hqn
  have L3 := Loc.mk' L1.chg [.int .i64 X.den, slx]
  have hlt1 := L1.lt
  have hx3 := Ext.alloc H2 [.int .i64 X.den, slx]
  replace L1 := L1.ext hx3
  replace h2 := h2.ext hx3 (by omega)
  have fX2 := (fX.held [p1] (by simp; omega)).more (Nat.le_refl H2.next)
  replace fX2 := fX2.ext hx3
  generalize H2.alloc [.int .i64 X.den, slx] = H3 at L1 L3 hx3 h2 fX2 ⊢
  have hn3 := hx3.next
  generalize H2.next = p3 at L3 hx3 fX2 hlt1 hn3 hn2
  clear fX
  have hlt3 := L3.lt
  have hge1 := L1.ge
  have hge3 := L3.ge
  obtain ⟨R, hR⟩ : ∃ R, R = pSumF s F st := ⟨_, rfl⟩
  rw [← hR]
  unfold pSumF at hR
  -- a sign ahead
  refine s_cut (fun e' H' => ∃ (su : Value) (U : V) (t6 : Bool), Good U ∧ Held H' H.next [p3, p1] su U.ts ∧ Loc q H H' p1 [.int .i64 0, .slice none 0 0] ∧ Loc q H H' p3 [.int .i64 U.den, su] ∧ IRd H' q s i6 d6 m6 f6 t6 ∧
    ((R = none ∧ (f6 = false ∨ isD (ch s i6) = true)) ∨ (f6 = true ∧ d6 = d ∧ ∃ (k : Nat) (l6 : Bool) (Up : V), t6 = !l6 ∧ s.size + 1 ≤ k + i6 ∧ R = sumLoop s F k ⟨i6, m6, l6⟩ Up ∧ (l6 = false → U = Up))) ∧ e' = [pt q, pt p1, .bool (decide (ch s st.i = 45)), pt p3, undef, undef, undef]) ?_ ?_
  · refine s_test1 ?_
    simp only [o_pure, o_nil, POp.ev, Opd.ev, gv, setD, Option.some.injEq, exists_eq_left']
    by_cases h45 : ch s st.i = 45
    · simp only [h45, decide_true, if_true] at hi0 ⊢
      rw [if_pos h45, ← hi0] at hR
      refine Test.true_ ?_
      have hfz : fillV [.int .i64 0, .slice none 0 0] [(0, 1, .int .i64 1)] = some [.int .i64 1, .slice none 0 0] := rfl
      refine s_reg1 ?_
      simp only [o_pure, o_callF, POp.ev, Opd.ev, gv, setD, List.map, Option.map_some, Option.some.injEq, exists_eq_left', hfz, L3.load2]
      refine (plus_ok lim (.slice none 0 0) slx zV X (-1) H3 (by omega) (SlF.nil H3 0).sl fX2.sl zV_good gX (.inr rfl)).mono ?_
      rintro _ H10 ⟨⟨sl2, rfl, fW⟩, hx10⟩
      have hn10 := hx10.next
      obtain ⟨W, hW⟩ : ∃ W, W = redV (coll (addM zV X (-1))) (zV.den * X.den) := ⟨_, rfl⟩
      rw [← hW] at fW
      have hcl := coll_length (addM zV X (-1))
      have hpl := addM_length zV_good gX (-1)
      have hWl : W.ts.length ≤ 100000 := by rw [hW, redV_len]; omega
      have hWx : ∀ t ∈ W.ts, exS t := by rw [hW]; exact redV_ex (add_bn zV_good gX (.inr rfl))
      have gW : toldB W = true → Good W := by rw [hW]; exact add_red_good zV_good gX (.inr rfl)
      obtain ⟨l6, rfl⟩ : ∃ l6, t6 = !l6 := ⟨!t6, by simp⟩
      simp only [o_cont, o_callF, Opd.ev, gv, setD, List.map]
      rw [← hW]
      refine (iKeepR_ok lim q s i6 d6 m6 f6 l6 sl2 W H3.next H10 hq (by omega) (by omega) (by omega) (h2.ext hx10 (by omega)) fW hWl hWx).mono ?_
      rintro _ H11 ⟨sl3, rfl, fK, h11, c11⟩
      have hn11 := c11.next
      obtain ⟨H12, e12, L12, c12, n12⟩ := ((L3.ext hx10).step c11 hqn).put2 hl (.int .i64 (kV l6 W).den) sl3
      simp only [o_cont, o_eff, o_nil, Opd.ev, EOp.ev, gv, setD, Option.some.injEq, exists_eq_left', e12]
      try simp +decide only [p_seq_normal]
      have L112 := ((L1.ext hx10).step c11 hqn).other c12 (by omega) hge3
      have h12 := h11.over c12 (by omega) (by omega)
      have hK := ((fK.held [p3, p1] (by simp; omega)).chg c12 (.inl (by simp)))
      refine ⟨sl3, kV l6 W, _, kV_good gW, hK.imp id (fun ⟨b, g1, g2, g3, g4⟩ => ⟨b, by omega, g2, g3, g4⟩), L112, L12, h12, ?_, trivial⟩
      rcases hcase with ⟨hn, hbad⟩ | ⟨lr, Y, hsm, rfl, rfl, elr, g1, gY, hXY⟩
      · rw [hn] at hR
        exact .inl ⟨hR, hbad⟩
      · have elr' : l6 = lr := by cases l6 <;> cases lr <;> first | rfl | cases elr
        subst elr'
        rw [hsm, Option.bind_some] at hR
        simp only at g1
        have hkr := keep_rel (i := i6) (m := m6) (l := l6) (W := W) (op := addV zV Y (-1)) (fun e => by
          rw [← hXY e, hW]
          exact add_red zV_good gX (.inr rfl))
        have hst : (keepF ⟨i6, m6, l6⟩ (addV zV Y (-1))).1 = ⟨i6, m6, (keepF ⟨i6, m6, l6⟩ (addV zV Y (-1))).1.large⟩ := by
          cases addV zV Y (-1) <;> rfl
        rw [hst] at hR
        exact .inr ⟨rfl, rfl, s.size + 1, _, _, hkr.1, by omega, hR, hkr.2⟩
    · simp only [h45, decide_false, if_false, Bool.false_eq_true] at hi0 ⊢
      rw [if_neg h45] at hR
      refine Test.false_ (s_skip1 ?_)
      simp +decide only [p_seq_normal]
      refine ⟨slx, X, t6, gX, fX2.imp id (fun ⟨b, g1, g2, g3, g4⟩ => ⟨b, by omega, g2, g3, g4⟩), L1, L3, h2, ?_, trivial⟩
      subst hi0
      rcases hcase with ⟨hn, hbad⟩ | ⟨lr, Y, hsm, e1, e2, e3, g1, gY, hXY⟩
      · have hn' : F st = none := hn
        rw [hn'] at hR
        exact .inl ⟨hR, hbad⟩
      · have hsm' : F st = some (⟨i6, m6, lr⟩, Y) := hsm
        rw [hsm', Option.bind_some] at hR
        exact .inr ⟨e1, e2, s.size + 1, lr, Y, e3, by omega, hR, hXY⟩
  clear L1 L3 h2 hcase gX fX2 hR hx3
  rintro e' H3 ⟨su, U, t6, gU, hU, L1, L3, h2, hcase, rfl⟩
  refine s_cut (fun e' H' => ∃ (su x4 x5 x6 : Value) (U : V) (i6 : Nat) (d6 m6 : Int) (f6 t6 : Bool), Good U ∧ Held H' H.next [p3, p1] su U.ts ∧ Loc q H H' p1 [.int .i64 0, .slice none 0 0] ∧ Loc q H H' p3 [.int .i64 U.den, su] ∧ IRd H' q s i6 d6 m6 f6 t6 ∧ i6 ≤ s.size ∧ (f6 = false ∨ ¬ (ch s i6 = 43 ∨ ch s i6 = 45)) ∧
    ((R = none ∧ (f6 = false ∨ isD (ch s i6) = true)) ∨ (f6 = true ∧ d6 = d ∧ ∃ (k : Nat) (l6 : Bool) (Up : V), t6 = !l6 ∧ s.size + 1 ≤ k + i6 ∧ R = sumLoop s F k ⟨i6, m6, l6⟩ Up ∧ (l6 = false → U = Up))) ∧ e' = [pt q, pt p1, .bool (decide (ch s st.i = 45)), pt p3, x4, x5, x6]) ?_ ?_
  · refine s_block1 ?_
    refine s_loop1 (fun k e' H' => ∃ (su x4 x5 x6 : Value) (U : V) (i6 : Nat) (d6 m6 : Int) (f6 t6 : Bool), k = mu s f6 i6 ∧ Good U ∧ Held H' H.next [p3, p1] su U.ts ∧ Loc q H H' p1 [.int .i64 0, .slice none 0 0] ∧ Loc q H H' p3 [.int .i64 U.den, su] ∧ IRd H' q s i6 d6 m6 f6 t6 ∧ i6 ≤ s.size ∧
      ((R = none ∧ (f6 = false ∨ isD (ch s i6) = true)) ∨ (f6 = true ∧ d6 = d ∧ ∃ (k : Nat) (l6 : Bool) (Up : V), t6 = !l6 ∧ s.size + 1 ≤ k + i6 ∧ R = sumLoop s F k ⟨i6, m6, l6⟩ Up ∧ (l6 = false → U = Up))) ∧ e' = [pt q, pt p1, .bool (decide (ch s st.i = 45)), pt p3, x4, x5, x6]) _ ⟨su, _, _, _, U, i6, d6, m6, f6, t6, rfl, gU, hU, L1, L3, h2, hi6, hcase, rfl⟩ ?_
    clear hU L1 L3 h2 hcase gU hi6 hn3 hlt3
    rintro kk e' H3 ⟨su, x4, x5, x6, U, i6, d6, m6, f6, t6, rfl, gU, hU, L1, L2, h3, hi6, hcase, rfl⟩
    have hn3 := L1.chg.next
    have hlt2 := L2.lt
    refine s_test ?_
    simp only [o_pure, o_nil, POp.ev, Opd.ev, gv, setD, Option.some.injEq, exists_eq_left', load1V, nilchkV, fadV, Nat.zero_add, h3.c4]
    cases hf6 : f6
    · refine Test.false_ (s_exit1 ?_)
      simp +decide only [p_seq_normal, p_seq_exit, p_block_exit, reduceIte]
      exact ⟨su, x4, x5, x6, U, i6, d6, m6, f6, t6, gU, hU, L1, L2, h3, hi6, .inl hf6, hcase, rfl⟩
    · refine Test.true_ (s_skip1 ?_)
      simp +decide only [p_seq_normal]
      refine s_block1 ?_
      refine s_reg ?_
      simp only [o_pure, o_callF, POp.ev, Opd.ev, gv, setD, List.map, Option.some.injEq, exists_eq_left']
      refine (iNext_ok lim q _ s i6 d6 m6 f6 t6 H3 hq (by omega) h3).mono ?_
      rintro _ H4 ⟨rfl, h4, c4⟩
      rw [hit_pm] at h4 ⊢
      simp only [o_cont, o_pure, o_nil, POp.ev, Opd.ev, gv, setD, List.set, Option.some.injEq, exists_eq_left', extV, List.getElem?_toArray, List.getElem?_cons_zero, List.getElem?_cons_succ]
      have hn4 := c4.next
      replace L1 := L1.step c4 hqn
      replace L2 := L2.step c4 hqn
      replace hU := hU.chg c4 (.inr (by omega))
      refine s_test ?_
      simp only [o_pure, o_nil, POp.ev, Opd.ev, gv, setD, Option.some.injEq, exists_eq_left', unV]
      by_cases hpm : ch s i6 = 43 ∨ ch s i6 = 45
      · have hlt6 := ch_lt (s := s) (i := i6) (by omega)
        simp only [hpm, decide_true, if_true, Bool.not_true] at h4 ⊢
        refine Test.false_ (s_skip1 ?_)
        simp +decide only [p_seq_normal]
        obtain ⟨_, rfl, k, l6, Up, rfl, hk, hRk, hUp⟩ := hcase.resolve_left (by
          rintro ⟨_, e | e⟩
          · rw [hf6] at e; cases e
          · rcases hpm with h | h <;> (rw [h] at e; cases e))
        obtain ⟨k, rfl⟩ : ∃ k', k = k' + 1 := ⟨k - 1, by omega⟩
        have hun : sumLoop s F (k + 1) ⟨i6, m6, l6⟩ Up = (F ⟨i6 + 1, m6, l6⟩).bind fun r => sumLoop s F k (keepF r.1 (addV Up r.2 (sgnC (ch s i6)))).1 (keepF r.1 (addV Up r.2 (sgnC (ch s i6)))).2 := by
          rw [sumLoop, if_pos hpm]
        rw [hun] at hRk
        have hmu : mu s true i6 = s.size + 1 - i6 := by
          unfold mu
          rw [if_pos ⟨rfl, by rcases hpm with h | h <;> (rw [h]; rfl)⟩]
        rw [hmu]
        subst hf6
        have e45 : ((ch s i6 : Int) == 45) = decide (ch s i6 = 45) := int_beq _ 45
        refine s_reg ?_
        simp only [o_pure, o_nil, POp.ev, Opd.ev, setD, List.set, Option.some.injEq, exists_eq_left']
        refine s_cut (fun e' H' => H' = H4 ∧ e' = [pt q, pt p1, .bool (decide (ch s st.i = 45)), pt p3, .int .u8 (ch s i6), .bool true, .int .i64 (sgnC (ch s i6))]) ?_ ?_
        · refine s_test1 ?_
          simp only [o_pure, o_nil, POp.ev, Opd.ev, gv, setD, Option.some.injEq, exists_eq_left', binV, ne_eq, not_true_eq_false, if_false, e45]
          by_cases h45 : ch s i6 = 45
          · simp only [h45, decide_true]
            refine Test.true_ (s_reg1 ?_)
            simp only [o_pure, o_nil, POp.ev, Opd.ev, setD, List.set, Option.some.injEq, exists_eq_left']
            simp +decide only [p_seq_normal]
            exact ⟨trivial, rfl⟩
          · simp only [h45, decide_false]
            refine Test.false_ (s_skip1 ?_)
            simp +decide only [p_seq_normal]
            unfold sgnC
            rw [if_neg h45]
            exact ⟨trivial, rfl⟩
        rintro e' H' ⟨rfl, rfl⟩
        have hcall := hF H' ⟨i6 + 1, m6, l6⟩ (by omega) (by omega) hlt6 h4
        refine s_regT1 ?_
        simp only [o_pure, o_eff, o_callF, t_op, t_alt, t_nil, o_nil, POp.ev, Opd.ev, EOp.ev, gv, setD, List.map, Option.map_some, Option.some.injEq, exists_eq_left', L2.load2]
        refine ⟨?_, ?_⟩
        ·
          refine hcall.mono ?_
          intro v H9 hr
          obtain ⟨c9, X, slx, i7, d7, m7, f7, t7, rfl, gX, fX, h9, hi7, hcase7⟩ := ResI.cases hadv hr
          obtain ⟨l7, rfl⟩ : ∃ l7, t7 = !l7 := ⟨!t7, by simp⟩
          have hn9 := c9.next
          have L19 := L1.step c9 hqn
          have L29 := L2.step c9 hqn
          have hU9 := hU.chg c9 (.inr (by omega))
          simp only [o_cont, o_nil, gv, setD]
          refine (plus_ok lim su slx U X (sgnC (ch s i6)) H9 (by omega) hU9.sl fX.sl gU gX (sgnC_or _)).mono ?_
          rintro _ H10 ⟨⟨sl2, rfl, fW⟩, hx10⟩
          have hn10 := hx10.next
          obtain ⟨W, hW⟩ : ∃ W, W = redV (coll (addM U X (sgnC (ch s i6)))) (U.den * X.den) := ⟨_, rfl⟩
          rw [← hW] at fW
          have hcl := coll_length (addM U X (sgnC (ch s i6)))
          have hpl := addM_length gU gX (sgnC (ch s i6))
          have hWl : W.ts.length ≤ 100000 := by rw [hW, redV_len]; omega
          have hWx : ∀ t ∈ W.ts, exS t := by rw [hW]; exact redV_ex (add_bn gU gX (sgnC_or _))
          have gW : toldB W = true → Good W := by rw [hW]; exact add_red_good gU gX (sgnC_or _)
          simp only [o_cont, o_nil, gv, setD]
          rw [← hW]
          refine (iKeepR_ok lim q s i7 d7 m7 f7 l7 sl2 W H9.next H10 hq (by omega) (by omega) (by omega) (h9.ext hx10 (by omega)) fW hWl hWx).mono ?_
          rintro _ H11 ⟨sl3, rfl, fK, h11, c11⟩
          have hn11 := c11.next
          obtain ⟨H12, e12, L12, c12, n12⟩ := ((L29.ext hx10).step c11 hqn).put2 hl (.int .i64 (kV l7 W).den) sl3
          simp only [o_cont, o_nil, gv, setD, Option.some.injEq, exists_eq_left', e12]
          try simp +decide only [p_seq_normal, p_block_normal]
          have hge2' := L29.ge
          have L112 := ((L19.ext hx10).step c11 hqn).other c12 (by omega) hge2'
          have h12 := h11.over c12 (by omega) (by omega)
          have hK := ((fK.held [p3, p1] (by simp; omega)).chg c12 (.inl (by simp)))
          refine Round.mk _ ?_ ⟨sl3, _, _, _, kV l7 W, i7, d7, m7, f7, _, rfl, kV_good gW, hK.imp id (fun ⟨b, g1, g2, g3, g4⟩ => ⟨b, by omega, g2, g3, g4⟩), L112, L12, h12, hi7, ?_, rfl⟩
          · rcases hcase7 with ⟨_, hbad⟩ | ⟨lr, Y, _, _, _, _, g1, _, _⟩
            · rw [mu_stuck hbad]; omega
            · have := mu_le s f7 i7
              simp only at g1
              omega
          · rcases hcase7 with ⟨hn, hbad⟩ | ⟨lr, Y, hsm, rfl, rfl, elr, g1, gY, hXY⟩
            · rw [hn] at hRk
              exact .inl ⟨hRk, hbad⟩
            · have elr' : l7 = lr := by cases l7 <;> cases lr <;> first | rfl | cases elr
              subst elr'
              rw [hsm, Option.bind_some] at hRk
              simp only at g1
              have hkr := keep_rel (i := i7) (m := m7) (l := l7) (W := W) (op := addV Up Y (sgnC (ch s i6))) (fun e => by
                have e6 : l6 = false := by
                  cases hl6 : l6
                  · rfl
                  · have := hstk _ _ hsm hl6
                    simp only at this
                    rw [e] at this; cases this
                rw [← hUp e6, ← hXY e, hW]
                exact add_red gU gX (sgnC_or _))
              have hst : (keepF ⟨i7, m7, l7⟩ (addV Up Y (sgnC (ch s i6)))).1 = ⟨i7, m7, (keepF ⟨i7, m7, l7⟩ (addV Up Y (sgnC (ch s i6)))).1.large⟩ := by
                cases addV Up Y (sgnC (ch s i6)) <;> rfl
              rw [hst] at hRk
              exact .inr ⟨rfl, rfl, k, _, _, hkr.1, by omega, hRk, hkr.2⟩
        ·
          refine hcall.mono ?_
          intro v H9 hr
          obtain ⟨c9, X, slx, i7, d7, m7, f7, t7, rfl, gX, fX, h9, hi7, hcase7⟩ := ResI.cases hadv hr
          obtain ⟨l7, rfl⟩ : ∃ l7, t7 = !l7 := ⟨!t7, by simp⟩
          have hn9 := c9.next
          have L19 := L1.step c9 hqn
          have L29 := L2.step c9 hqn
          have hU9 := hU.chg c9 (.inr (by omega))
          simp only [o_cont, o_nil, gv, setD, Option.map_some, Option.some.injEq, exists_eq_left', L29.load2]
          refine (plus_ok lim su slx U X (sgnC (ch s i6)) H9 (by omega) hU9.sl fX.sl gU gX (sgnC_or _)).mono ?_
          rintro _ H10 ⟨⟨sl2, rfl, fW⟩, hx10⟩
          have hn10 := hx10.next
          obtain ⟨W, hW⟩ : ∃ W, W = redV (coll (addM U X (sgnC (ch s i6)))) (U.den * X.den) := ⟨_, rfl⟩
          rw [← hW] at fW
          have hcl := coll_length (addM U X (sgnC (ch s i6)))
          have hpl := addM_length gU gX (sgnC (ch s i6))
          have hWl : W.ts.length ≤ 100000 := by rw [hW, redV_len]; omega
          have hWx : ∀ t ∈ W.ts, exS t := by rw [hW]; exact redV_ex (add_bn gU gX (sgnC_or _))
          have gW : toldB W = true → Good W := by rw [hW]; exact add_red_good gU gX (sgnC_or _)
          simp only [o_cont, o_nil, gv, setD]
          rw [← hW]
          refine (iKeepR_ok lim q s i7 d7 m7 f7 l7 sl2 W H9.next H10 hq (by omega) (by omega) (by omega) (h9.ext hx10 (by omega)) fW hWl hWx).mono ?_
          rintro _ H11 ⟨sl3, rfl, fK, h11, c11⟩
          have hn11 := c11.next
          obtain ⟨H12, e12, L12, c12, n12⟩ := ((L29.ext hx10).step c11 hqn).put2 hl (.int .i64 (kV l7 W).den) sl3
          simp only [o_cont, o_nil, gv, setD, Option.some.injEq, exists_eq_left', e12]
          try simp +decide only [p_seq_normal, p_block_normal]
          have hge2' := L29.ge
          have L112 := ((L19.ext hx10).step c11 hqn).other c12 (by omega) hge2'
          have h12 := h11.over c12 (by omega) (by omega)
          have hK := ((fK.held [p3, p1] (by simp; omega)).chg c12 (.inl (by simp)))
          refine Round.mk _ ?_ ⟨sl3, _, _, _, kV l7 W, i7, d7, m7, f7, _, rfl, kV_good gW, hK.imp id (fun ⟨b, g1, g2, g3, g4⟩ => ⟨b, by omega, g2, g3, g4⟩), L112, L12, h12, hi7, ?_, rfl⟩
          · rcases hcase7 with ⟨_, hbad⟩ | ⟨lr, Y, _, _, _, _, g1, _, _⟩
            · rw [mu_stuck hbad]; omega
            · have := mu_le s f7 i7
              simp only at g1
              omega
          · rcases hcase7 with ⟨hn, hbad⟩ | ⟨lr, Y, hsm, rfl, rfl, elr, g1, gY, hXY⟩
            · rw [hn] at hRk
              exact .inl ⟨hRk, hbad⟩
            · have elr' : l7 = lr := by cases l7 <;> cases lr <;> first | rfl | cases elr
              subst elr'
              rw [hsm, Option.bind_some] at hRk
              simp only at g1
              have hkr := keep_rel (i := i7) (m := m7) (l := l7) (W := W) (op := addV Up Y (sgnC (ch s i6))) (fun e => by
                have e6 : l6 = false := by
                  cases hl6 : l6
                  · rfl
                  · have := hstk _ _ hsm hl6
                    simp only at this
                    rw [e] at this; cases this
                rw [← hUp e6, ← hXY e, hW]
                exact add_red gU gX (sgnC_or _))
              have hst : (keepF ⟨i7, m7, l7⟩ (addV Up Y (sgnC (ch s i6)))).1 = ⟨i7, m7, (keepF ⟨i7, m7, l7⟩ (addV Up Y (sgnC (ch s i6)))).1.large⟩ := by
                cases addV Up Y (sgnC (ch s i6)) <;> rfl
              rw [hst] at hRk
              exact .inr ⟨rfl, rfl, k, _, _, hkr.1, by omega, hRk, hkr.2⟩
      · simp only [hpm, decide_false, if_false, Bool.false_eq_true, Bool.not_false] at h4 ⊢
        refine Test.true_ (s_exit1 ?_)
        simp +decide only [p_seq_normal, p_seq_exit, p_block_exit, reduceIte]
        exact ⟨su, _, _, _, U, i6, d6, m6, f6, t6, gU, hU, L1, L2, h4, hi6, .inr hpm, hcase, rfl⟩
  · clear hU L1 L3 h2 hcase gU hi6 hn3 hlt3
    rintro e' H3 ⟨su, x4, x5, x6, U, i6, d6, m6, f6, t6, gU, hU, L1, L2, h3, hi6, hstop, hcase, rfl⟩
    have hn3 := L1.chg.next
    obtain ⟨H9, e9, L9, c9, n9⟩ := L1.put2 hl (.int .i64 U.den) su
    refine s_reg ?_
    simp only [o_pure, o_eff, o_nil, POp.ev, Opd.ev, EOp.ev, gv, setD, Option.some.injEq, exists_eq_left', L2.load2, e9]
    refine s_ret1 ?_
    simp +decide only [p_fin_ret, resV, resOne, gv, Option.some.injEq, exists_eq_left', L9.load2]
    have h9 := h3.over c9 (by omega) (by omega)
    refine ⟨L9.chg, U, _, _, _, _, _, gU, ⟨su, rfl, (hU.chg c9 (.inl (by simp))).slf⟩, hi6, h9, ?_⟩
    rcases hcase with ⟨hn, hbad⟩ | ⟨rfl, rfl, k, l6, Up, rfl, hk, hRk, hUp⟩
    · rw [hn]
      exact hbad
    · obtain ⟨k, rfl⟩ : ∃ k', k = k' + 1 := ⟨k - 1, by omega⟩
      rw [hRk, sumLoop, if_neg (by simpa using hstop)]
      exact ⟨rfl, rfl, rfl, rfl, rfl, hUp⟩

theorem iS_ok (lim q : Nat) (s : ByteArray) (hq : lim ≤ q) (hs : s.size ≤ 100) : ∀ k : Nat, k ≤ 4 → IOk lim q s (4 - (k : Int)) n_impl_reader_sum (pS s k)
  | 0, _ => by
    have h1 := iBase_ok lim q s 4 none hq hs (by omega) (by intro f h; cases h) (fun _ => rfl)
    have a1 : Adv s (pBase s 4 none) := adv_base (by intro f h; cases h)
    have k1 : Stk (pBase s 4 none) := stk_base (by intro f h; cases h)
    have h2 := iFactor_ok lim q s 4 _ hq hs a1 h1
    have h3 := iProd_ok lim q s 4 _ hq hs (adv_factor a1) (stk_factor k1) h2
    exact iSum_ok lim q s 4 _ hq hs (adv_prod (adv_factor a1)) (stk_prod (stk_factor k1)) h3
  | k + 1, hk => by
    have ih := iS_ok lim q s hq hs k (by omega)
    have e1 : (4 : Int) - (k : Int) = 3 - (k : Int) + 1 := by omega
    have e2 : (4 : Int) - ((k + 1 : Nat) : Int) = 3 - (k : Int) := by omega
    rw [e1] at ih
    rw [e2]
    have h1 := iBase_ok lim q s (3 - (k : Int)) (some (pS s k)) hq hs (by omega) (by intro f h; cases h; exact ⟨by omega, adv_pS s k, ih⟩) (by intro h; cases h)
    have a1 : Adv s (pBase s (3 - (k : Int)) (some (pS s k))) := adv_base (by intro f h; cases h; exact adv_pS s k)
    have k1 : Stk (pBase s (3 - (k : Int)) (some (pS s k))) := stk_base (by intro f h; cases h; exact stk_pS s k)
    have h2 := iFactor_ok lim q s (3 - (k : Int)) _ hq hs a1 h1
    have h3 := iProd_ok lim q s (3 - (k : Int)) _ hq hs (adv_factor a1) (stk_factor k1) h2
    exact iSum_ok lim q s (3 - (k : Int)) _ hq hs (adv_prod (adv_factor a1)) (stk_prod (stk_factor k1)) h3

/-- what the whole reading answers -/
def ReadI (s : ByteArray) (H : AHeap) (v : Value) (H' : AHeap) : Prop :=
  Ext H H' ∧ ∃ (q : Nat) (X : V) (a sl : Value) (i d m : Int) (f t : Bool), v = pt q ∧ q < H'.next ∧ H'.blk q = some [.string s, .int .i64 i, .int .i64 d, .int .i64 m, .bool f, .bool t, a, sl] ∧
    (match pRead s with | some r => f = true ∧ m = r.1.most ∧ t = !r.1.large ∧ (r.1.large = false → X = r.2) ∧ a = .int .i64 X.den ∧ SlF H' H.next sl X.ts ∧ Good X | none => f = false)

theorem read_ok (lim : Nat) (s : ByteArray) (H : AHeap) (hl : lim ≤ H.next) : ACalls Tryd.prog lim n_impl_read [.string s] H fun v H' => ReadI s H v H' := by
  refine is_impl_read.go rfl ?_
  unfold c_impl_read
  refine s_reg ?_
  simp only [o_pure, o_nil, POp.ev, Opd.ev, env0, gu, setD, List.set, Option.some.injEq, exists_eq_left']
  have hf : ∀ b : Bool, fillV [.string ⟨⟨[]⟩⟩, .int .i64 0, .int .i64 0, .int .i64 0, .bool false, .bool false, .int .i64 0, .slice none 0 0] [(0, 1, .string s), (4, 1, .bool b), (5, 1, .bool true)] = some [.string s, .int .i64 0, .int .i64 0, .int .i64 0, .bool b, .bool true, .int .i64 0, .slice none 0 0] := fun b => rfl
  have hbx : ∀ cs : List Value, boxH H (.agg cs.toArray) = some (pt H.next, H.alloc cs) := fun cs => rfl
  refine s_reg ?_
  simp only [o_pure, o_eff, o_nil, POp.ev, Opd.ev, EOp.ev, gv, setD, List.set, List.map, Option.map_some, Option.some.injEq, exists_eq_left', binV, slenV, ne_eq, not_true_eq_false, if_false, hf, hbx]
  have Lq := Own.mk' (Ext.refl H) [.string s, .int .i64 0, .int .i64 0, .int .i64 0, .bool (decide ((s.size : Int) ≤ 100)), .bool true, .int .i64 0, .slice none 0 0]
  have hx2 := Ext.alloc H [.string s, .int .i64 0, .int .i64 0, .int .i64 0, .bool (decide ((s.size : Int) ≤ 100)), .bool true, .int .i64 0, .slice none 0 0]
  generalize H.alloc [.string s, .int .i64 0, .int .i64 0, .int .i64 0, .bool (decide ((s.size : Int) ≤ 100)), .bool true, .int .i64 0, .slice none 0 0] = H2 at Lq hx2 ⊢
  have hn2 := Lq.lt
  have hgeq := Lq.ge
  generalize hqe : H.next = q at Lq hn2 hgeq
  have h2 : IRd H2 q s ((0 : Nat) : Int) 0 0 (decide ((s.size : Int) ≤ 100)) true := Lq.blk
  refine s_cut (fun e' H' => ∃ (X : V) (a sl : Value) (i d m : Int) (f t : Bool), Chg q H2 H' ∧ H'.blk q = some [.string s, .int .i64 i, .int .i64 d, .int .i64 m, .bool f, .bool t, a, sl] ∧
    (match pRead s with | some r => f = true ∧ i = s.size ∧ m = r.1.most ∧ t = !r.1.large ∧ (r.1.large = false → X = r.2) ∧ a = .int .i64 X.den ∧ SlF H' (q + 1) sl X.ts ∧ Good X | none => f = false ∨ i ≠ s.size) ∧ e' = [.string s, .pointer none, pt q]) ?_ ?_
  · refine s_test1 ?_
    simp only [o_pure, o_nil, POp.ev, Opd.ev, gv, setD, Option.some.injEq, exists_eq_left', load1V, nilchkV, fadV, ne_eq, Nat.zero_add, h2.c4]
    by_cases hb : s.size ≤ 100
    · have hb' : decide ((s.size : Int) ≤ 100) = true := by simp; omega
      rw [hb'] at h2 ⊢
      have hcall := iS_ok lim q s (by omega) hb 4 (by omega) H2 ⟨0, 0, false⟩ (by omega) hn2 (Nat.zero_le _) h2
      refine Test.true_ ?_
      refine s_reg1 ?_
      simp only [o_pure, o_callF, POp.ev, Opd.ev, gv, setD, List.map, Option.some.injEq, exists_eq_left']
      refine hcall.mono ?_
      intro v H3 hr
      obtain ⟨c3, X, slx, i6, d6, m6, f6, t6, rfl, gX, fX, h3, hi6, hcase⟩ := ResI.cases (adv_pS s 4) hr
      have hn3 := c3.next
      have hst : storeH lim H3 2 (.pointer (some ⟨q, 6, none⟩)) (.agg #[.int .i64 X.den, slx]) = some (undef, H3.put q [.string s, .int .i64 i6, .int .i64 d6, .int .i64 m6, .bool f6, .bool t6, .int .i64 X.den, slx]) := by
        unfold IRd at h3
        simp only [storeH, cellsV, Option.bind_some, h3]
        rw [if_pos ⟨rfl, by omega⟩, if_pos (by simp)]
        rfl
      simp only [o_cont, o_pure, o_eff, o_nil, POp.ev, Opd.ev, EOp.ev, gv, setD, Option.some.injEq, exists_eq_left', nilchkV, fadV, Nat.zero_add, hst]
      simp +decide only [p_seq_normal]
      refine ⟨X, _, _, _, _, _, _, _, c3.trans (Chg.put _ _ _), put_same _ _ _, ?_, trivial⟩
      unfold pRead
      rw [if_pos hb]
      rcases hcase with ⟨hn, hbad⟩ | ⟨l6, Y, hsm, rfl, rfl, rfl, _, gY, hXY⟩
      · rw [hn]
        rcases hbad with h | h
        · exact .inl h
        · refine .inr ?_
          have := isD_lt h
          omega
      · rw [hsm]
        simp only [Option.bind_some]
        by_cases hi : i6 = s.size
        · rw [if_pos hi]
          exact ⟨trivial, by rw [hi], rfl, rfl, hXY, trivial, (fX.chg (Chg.put _ _ _) (.inl (by omega))).low (by omega), gX⟩
        · rw [if_neg hi]
          exact .inr (by omega)
    · have hb' : decide ((s.size : Int) ≤ 100) = false := by simp; omega
      rw [hb'] at h2 ⊢
      refine Test.false_ (s_skip1 ?_)
      simp +decide only [p_seq_normal]
      refine ⟨zV, _, _, _, _, _, _, _, Chg.refl _ _, h2, ?_, trivial⟩
      unfold pRead
      rw [if_neg hb]
      exact .inl rfl
  · rintro e' H3 ⟨X, a, sl, i, d, m, f, t, c3, hblk, hm, rfl⟩
    have hn3 := c3.next
    have k4 : H3.cell q 4 = some (.bool f) := cell_blk hblk 4
    have k1 : H3.cell q 1 = some (.int .i64 i) := cell_blk hblk 1
    have hst := store_cell (lim := lim) (H := H3) (b := q) (o := 4) (x := .bool (f && (i == (s.size : Int)))) rfl (by omega) hblk (by simp)
    have hcut : awpOps Tryd.prog lim [⟨.pure (.id (.v 2)), none, none⟩] (fun _ _ _ => True) [] [] H3 := by simp only [o_pure, o_nil, POp.ev, Opd.ev, gv, setD, Option.some.injEq, exists_eq_left']
    refine s_reg_cut (fun e' H' => H' = H3.put q [.string s, .int .i64 i, .int .i64 d, .int .i64 m, .bool (f && (i == (s.size : Int))), .bool t, a, sl] ∧ e' = [.string s, .pointer none, pt q]) ?_ ?_
    · cases hf : f
      · rw [hf] at hst
        simp only [Bool.false_and] at hst
        simp only [o_pure, o_eff, o_guard, gk_ft, o_nil, POp.ev, Opd.ev, EOp.ev, gv, setD, List.set, Option.some.injEq, exists_eq_left', pickV, load1V, nilchkV, fadV, Nat.zero_add, k4, hf, hst]
        exact ⟨rfl, trivial⟩
      · rw [hf] at hst
        simp only [Bool.true_and] at hst
        simp only [o_pure, o_eff, o_guard, gk_tt, o_nil, POp.ev, Opd.ev, EOp.ev, gv, setD, List.set, Option.some.injEq, exists_eq_left', pickV, binV, load1V, nilchkV, fadV, slenV, ne_eq, not_true_eq_false, if_false, Nat.zero_add, k4, k1, hf, hst]
        exact ⟨rfl, trivial⟩
    · rintro e' H' ⟨rfl, rfl⟩
      refine s_reg ?_
      simp only [o_pure, o_nil, POp.ev, Opd.ev, gv, setD, List.set, Option.some.injEq, exists_eq_left']
      refine s_ret1 ?_
      simp +decide only [p_fin_ret, resV, resOne, gv, Option.some.injEq, exists_eq_left']
      refine ⟨Chg.ext (Chg.ext hx2 c3 (by omega)) (Chg.put _ _ _) (by omega), q, X, a, sl, i, d, m, _, t, rfl, ?_, put_same _ _ _, ?_⟩
      · rw [put_next]; omega
      · cases hp : pRead s with
        | none =>
          rw [hp] at hm
          simp only at hm ⊢
          rcases hm with rfl | h
          · rfl
          · simp [h]
        | some r =>
          rw [hp] at hm
          obtain ⟨rfl, rfl, m1, m2, m3, m4, m5, m6⟩ := hm
          exact ⟨by simp, m1, m2, m3, m4, (m5.chg (Chg.put _ _ _) (.inl (by omega))).low (by omega), m6⟩

/-! ### polynomials read -/
def polyF (s : ByteArray) : Option V := (pRead s).bind fun r => if r.1.large = false ∧ goodP r.2.ts = true then some r.2 else none
def PolyR (s : ByteArray) (H : AHeap) (v : Value) (H' : AHeap) : Prop :=
  Ext H H' ∧ ∃ (sl : Value) (den : Int) (ok : Bool), v = .tuple #[sl, .int .i64 den, .bool ok] ∧ (match polyF s with | some V => ok = true ∧ den = V.den ∧ SlF H' H.next sl V.ts | none => ok = false ∧ den = 0 ∧ sl = .slice none 0 0)
theorem polyF_none {s : ByteArray} (h : pRead s = none) : polyF s = none := by unfold polyF; rw [h]; rfl
theorem polyF_some {s : ByteArray} {r : St × V} (h : pRead s = some r) : polyF s = if r.1.large = false ∧ goodP r.2.ts = true then some r.2 else none := by unfold polyF; rw [h]; rfl

theorem sPoly_ok (lim : Nat) (s : ByteArray) (H : AHeap) (hl : lim ≤ H.next) : ACalls Tryd.prog lim n_spec_txPoly [.string s] H fun v H' => PolyR s H v H' := by
  refine is_spec_txPoly.go rfl ?_
  unfold c_spec_txPoly
  refine s_reg ?_
  simp only [o_pure, o_nil, POp.ev, Opd.ev, env0, gu, setD, List.set, Option.some.injEq, exists_eq_left']
  refine s_reg ?_
  simp only [o_pure, o_callF, POp.ev, Opd.ev, gv, setD, List.map, Option.some.injEq, exists_eq_left']
  refine (txRead_ok lim s H hl).mono ?_
  rintro _ H1 ⟨hx1, q, X, sl, i, d, m, w, l, rfl, hq, h1, gX, fX, hm⟩
  have hn1 := hx1.next
  simp only [o_cont, o_pure, o_eff, o_nil, POp.ev, Opd.ev, EOp.ev, gv, setD, List.set, Option.some.injEq, exists_eq_left', extV, List.getElem?_toArray, List.getElem?_cons_zero, List.getElem?_cons_succ, store2_new (lim := lim) (H := H1) (by omega)]
  have hx2 := Ext.alloc H1 [sl, .int .i64 X.den]
  have h2 := h1.ext hx2 hq
  have hb2 : (H1.alloc [sl, .int .i64 X.den]).blk H1.next = some [sl, .int .i64 X.den] := alloc_new _ _
  have f2 := fX.ext hx2
  have hlt2 : H1.next < (H1.alloc [sl, .int .i64 X.den]).next := Nat.lt_succ_self _
  generalize H1.alloc [sl, .int .i64 X.den] = H2 at hx2 h2 hb2 f2 hlt2 ⊢
  have hn2 := hx2.next
  generalize H1.next = p at hb2 hlt2
  have kp0 : H2.cell p 0 = some sl := cell_blk hb2 0
  refine s_test_I (w || l || !goodP X.ts) (fun H' => Ext H2 H') ?_ (fun H3 hx3 hbad => ?_) (fun H3 hx3 hgood => ?_)
  · simp only [o_pure, o_guard, POp.ev, Opd.ev, gv, setD, Option.some.injEq, exists_eq_left', load1V, nilchkV, fadV, Nat.zero_add, h2.c4]
    cases hw : w
    · simp only [o_pure, o_guard, gk_ff, POp.ev, Opd.ev, gv, setD, Option.some.injEq, exists_eq_left', pickV, load1V, nilchkV, fadV, Nat.zero_add, h2.c5]
      cases hl : l
      · simp only [o_pure, o_callF, o_guard, gk_ff, POp.ev, Opd.ev, gv, setD, List.map, Option.some.injEq, exists_eq_left', load1V, fadV, Nat.zero_add, kp0]
        refine (poGood_ok lim sl X.ts H2 (by omega) f2.sl (by have := gX.len; omega)).mono ?_
        rintro _ H3 ⟨rfl, hx3⟩
        simp only [o_cont, o_pure, o_guard, gk_ff, o_nil, POp.ev, Opd.ev, gv, setD, Option.some.injEq, exists_eq_left', pickV, unV]
        simp [hx3]
      · simp only [o_pure, o_guard, gk_tf, o_nil, POp.ev, Opd.ev, gv, setD, Option.some.injEq, exists_eq_left', pickV]
        simp [Ext.refl]
    · simp only [o_pure, o_guard, gk_tf, o_nil, POp.ev, Opd.ev, gv, setD, Option.some.injEq, exists_eq_left', pickV]
      simp [Ext.refl]
  · refine s_reg ?_
    simp only [o_pure, o_nil, POp.ev, Opd.ev, setD, List.set, Option.some.injEq, exists_eq_left']
    refine s_ret1 ?_
    simp +decide only [p_seq_ret, p_fin_ret, resV, resOne, resL, gv, Option.some.injEq, exists_eq_left', Option.bind_some, Option.map_some]
    refine ⟨(hx1.trans hx2).trans hx3, _, _, _, rfl, ?_⟩
    cases hp : pRead s with
    | none => rw [polyF_none hp]; exact ⟨rfl, rfl, rfl⟩
    | some r =>
      rw [hp] at hm
      obtain ⟨rfl, rfl, rfl, rfl⟩ := hm
      rw [polyF_some hp, if_neg]
      · exact ⟨rfl, rfl, rfl⟩
      · rintro ⟨e1, e2⟩
        rw [e1, e2] at hbad
        cases hbad
  · refine s_skip1 ?_
    simp +decide only [p_seq_normal]
    have hb3 : H3.blk p = some [sl, .int .i64 X.den] := by rw [hx3.blk p hlt2]; exact hb2
    have kp0' : H3.cell p 0 = some sl := cell_blk hb3 0
    have kp1' : H3.cell p 1 = some (.int .i64 X.den) := cell_blk hb3 1
    refine s_reg ?_
    simp only [o_pure, o_nil, POp.ev, Opd.ev, gv, setD, List.set, Option.some.injEq, exists_eq_left', load1V, fadV, Nat.zero_add, kp0', kp1']
    refine s_ret1 ?_
    simp +decide only [p_fin_ret, resV, resOne, resL, gv, Option.some.injEq, exists_eq_left', Option.bind_some, Option.map_some]
    refine ⟨(hx1.trans hx2).trans hx3, _, _, _, rfl, ?_⟩
    simp only [Bool.or_eq_false_iff, Bool.not_eq_false'] at hgood
    obtain ⟨⟨rfl, rfl⟩, hgp⟩ := hgood
    cases hp : pRead s with
    | none => rw [hp] at hm; cases hm
    | some r =>
      rw [hp] at hm
      obtain ⟨_, rfl, e, rfl⟩ := hm
      rw [polyF_some hp, if_pos ⟨e.symm, hgp⟩]
      exact ⟨rfl, rfl, f2.ext hx3⟩
theorem iPoly_ok (lim : Nat) (s : ByteArray) (H : AHeap) (hl : lim ≤ H.next) : ACalls Tryd.prog lim n_impl_readPoly [.string s] H fun v H' => PolyR s H v H' := by
  refine is_impl_readPoly.go rfl ?_
  unfold c_impl_readPoly
  refine s_reg ?_
  simp only [o_pure, o_nil, POp.ev, Opd.ev, env0, gu, setD, List.set, Option.some.injEq, exists_eq_left']
  refine s_reg ?_
  simp only [o_pure, o_callF, POp.ev, Opd.ev, gv, setD, List.map, Option.some.injEq, exists_eq_left']
  refine (read_ok lim s H hl).mono ?_
  rintro _ H1 ⟨hx1, q, X, a, sl, i, d, m, f, t, rfl, hq, h1, hm⟩
  have k4 : H1.cell q 4 = some (.bool f) := cell_blk h1 4
  have k5 : H1.cell q 5 = some (.bool t) := cell_blk h1 5
  have k7 : H1.cell q 7 = some sl := cell_blk h1 7
  have hn1 := hx1.next
  simp only [o_cont, o_pure, o_nil, POp.ev, Opd.ev, gv, setD, List.set, Option.some.injEq, exists_eq_left']
  cases hp : pRead s with
  | none =>
    rw [hp] at hm
    subst hm
    refine s_test ?_
    simp only [o_pure, o_guard, gk_tf, o_nil, POp.ev, Opd.ev, gv, setD, Option.some.injEq, exists_eq_left', pickV, load1V, nilchkV, unV, fadV, Bool.not_false, Nat.zero_add, k4]
    refine Test.true_ (s_reg ?_)
    simp only [o_pure, o_nil, POp.ev, Opd.ev, setD, List.set, Option.some.injEq, exists_eq_left']
    refine s_ret1 ?_
    simp +decide only [p_seq_ret, p_fin_ret, resV, resOne, resL, gv, Option.some.injEq, exists_eq_left', Option.bind_some, Option.map_some]
    refine ⟨hx1, _, _, _, rfl, ?_⟩
    rw [polyF_none hp]
    exact ⟨rfl, rfl, rfl⟩
  | some r =>
    rw [hp] at hm
    obtain ⟨rfl, rfl, rfl, hXr, rfl, fX, gX⟩ := hm
    refine s_test_I (r.1.large || !goodP X.ts) (fun H' => Ext H1 H') ?_ (fun H3 hx3 hbad => ?_) (fun H3 hx3 hgood => ?_)
    · simp only [o_pure, o_guard, gk_ff, POp.ev, Opd.ev, gv, setD, Option.some.injEq, exists_eq_left', pickV, load1V, nilchkV, unV, fadV, Bool.not_true, Nat.zero_add, k4]
      simp only [Option.some.injEq, exists_eq_left', k5]
      cases hlg : r.1.large
      · simp only [o_pure, o_callF, o_guard, gk_ff, POp.ev, Opd.ev, gv, setD, List.map, Option.some.injEq, exists_eq_left', load1V, nilchkV, fadV, Bool.not_true, Bool.not_false, Nat.zero_add, k7, Nat.reduceAdd]
        refine (isPoly_ok lim sl X.ts H1 (by omega) fX.sl (by have := gX.len; omega)).mono ?_
        rintro _ H3 ⟨rfl, hx3⟩
        simp only [o_cont, o_pure, o_guard, gk_ff, o_nil, POp.ev, Opd.ev, gv, setD, Option.some.injEq, exists_eq_left', pickV, unV]
        simp [hx3]
      · simp only [o_pure, o_guard, gk_tf, o_nil, POp.ev, Opd.ev, gv, setD, Option.some.injEq, exists_eq_left', pickV, Bool.not_true, Bool.not_false]
        simp [Ext.refl]
    · refine s_reg ?_
      simp only [o_pure, o_nil, POp.ev, Opd.ev, setD, List.set, Option.some.injEq, exists_eq_left']
      refine s_ret1 ?_
      simp +decide only [p_seq_ret, p_fin_ret, resV, resOne, resL, gv, Option.some.injEq, exists_eq_left', Option.bind_some, Option.map_some]
      refine ⟨hx1.trans hx3, _, _, _, rfl, ?_⟩
      rw [polyF_some hp, if_neg]
      · exact ⟨rfl, rfl, rfl⟩
      · rintro ⟨e1, e2⟩
        rw [← hXr e1] at e2
        rw [e1, e2] at hbad
        cases hbad
    · refine s_skip1 ?_
      simp +decide only [p_seq_normal]
      simp only [Bool.or_eq_false_iff, Bool.not_eq_false'] at hgood
      obtain ⟨e1, e2⟩ := hgood
      have eX := hXr e1
      have hb3 := h1
      rw [← hx3.blk q hq] at hb3
      have k6' : H3.cell q 6 = some (.int .i64 X.den) := cell_blk hb3 6
      have k7' : H3.cell q 7 = some sl := cell_blk hb3 7
      refine s_reg ?_
      simp only [o_pure, o_nil, POp.ev, Opd.ev, gv, setD, List.set, Option.some.injEq, exists_eq_left', load1V, nilchkV, fadV, Nat.zero_add, k7', k6', Nat.reduceAdd, Nat.add_zero]
      refine s_ret1 ?_
      simp +decide only [p_fin_ret, resV, resOne, resL, gv, Option.some.injEq, exists_eq_left', Option.bind_some, Option.map_some]
      refine ⟨hx1.trans hx3, _, _, _, rfl, ?_⟩
      rw [polyF_some hp, if_pos ⟨e1, by rw [← eX]; exact e2⟩, ← eX]
      exact ⟨rfl, rfl, fX.ext hx3⟩
end Go.Proofs.YtooaafekllkpbaaDoor

/- FnExactIsExpression, FnExactDepthOf, FnExactReadPoly: the laws' contracts; no condition. -/
namespace Go.Proofs.YtooaafekllkpbaaDoor
open Go.Ab
set_option linter.unusedSimpArgs false
set_option linter.unusedVariables false

def polyL (s : ByteArray) : List Tm := match polyF s with | some V => V.ts | none => []
def polyD (s : ByteArray) : Int := match polyF s with | some V => V.den | none => 0
theorem PolyR.all {s : ByteArray} {H H' : AHeap} {v : Value} (h : PolyR s H v H') : Ext H H' ∧ ∃ sl, v = .tuple #[sl, .int .i64 (polyD s), .bool (polyF s).isSome] ∧ SlF H' H.next sl (polyL s) := by
  obtain ⟨hx, sl, den, ok, rfl, hm⟩ := h
  refine ⟨hx, sl, ?_⟩
  unfold polyD polyL
  cases hp : polyF s with
  | none =>
    rw [hp] at hm
    obtain ⟨rfl, rfl, rfl⟩ := hm
    exact ⟨rfl, SlF.nil _ _⟩
  | some V =>
    rw [hp] at hm
    obtain ⟨rfl, rfl, h⟩ := hm
    exact ⟨rfl, h⟩
theorem polyL_len (s : ByteArray) : (polyL s).length ≤ 20 := by
  unfold polyL polyF
  cases hp : pRead s with
  | none => simp
  | some r =>
    simp only [Option.bind_some]
    by_cases h : r.1.large = false ∧ goodP r.2.ts = true
    · rw [if_pos h]
      have := h.2
      unfold goodP at this
      simp at this
      have h2 := this.2
      show r.2.ts.length ≤ 20
      omega
    · rw [if_neg h]; simp

end Go.Proofs.YtooaafekllkpbaaDoor

/- FnExactIsSameEquation: primitive polynomials, lists of terms compared, and the law's contract; no condition. -/
namespace Go.Proofs.YtooaafekllkpbaaDoor
open Go.Ab
set_option linter.unusedSimpArgs false
set_option linter.unusedVariables false

structure Sml (p : List Tm) : Prop where
  ok : ∀ t ∈ p, t.c ≠ 0 ∧ -1000 ≤ t.c ∧ t.c ≤ 1000
  len : p.length ≤ 20
theorem Sml.step {p : List Tm} (h : Sml p) {i : Nat} (hi : i < p.length) {g : Int} (h0 : 0 ≤ g) : 0 < (Int.gcd g p[i].c : Int) ∧ (Int.gcd g p[i].c : Int) ≤ 1000 := by
  have h1 := h.ok _ (List.getElem_mem hi)
  have h2 : Int.gcd g p[i].c ≠ 0 := by
    intro e
    have := (Int.gcd_eq_zero_iff.1 e).2
    exact h1.1 this
  refine ⟨by omega, ?_⟩
  have h3 : (Int.gcd g p[i].c : Int) ∣ p[i].c := Int.gcd_dvd_right ..
  have h4 := Int.le_of_dvd (b := (p[i].c.natAbs : Int)) (by omega) (Int.dvd_natAbs.2 h3)
  omega
end Go.Proofs.YtooaafekllkpbaaDoor

/- Systems read from texts, plain law: texts split at semicolons; no condition. -/
namespace Go.Proofs.YtooaafekllkpbaaDoor
open Go.Ab
set_option linter.unusedSimpArgs false
set_option linter.unusedVariables false

/-- the parts between semicolons -/
def splitL : List UInt8 → List (List UInt8)
  | [] => [[]]
  | c :: l => if c = 59 then [] :: splitL l else match splitL l with
    | h :: t => (c :: h) :: t
    | [] => [[c]]
theorem splitL_ne : ∀ l : List UInt8, splitL l ≠ []
  | [] => by simp [splitL]
  | c :: l => by
    unfold splitL
    split
    · simp
    · split <;> simp
theorem split_none : ∀ {a : List UInt8}, (∀ x ∈ a, x ≠ 59) → splitL a = [a]
  | [], _ => rfl
  | c :: a, h => by
    unfold splitL
    rw [if_neg (h c (by simp)), split_none (fun x hx => h x (by simp [hx]))]
theorem split_semi : ∀ {a b : List UInt8}, (∀ x ∈ a, x ≠ 59) → splitL (a ++ 59 :: b) = a :: splitL b
  | [], b, _ => by simp [splitL]
  | c :: a, b, h => by
    rw [List.cons_append, splitL, if_neg (h c (by simp)), split_semi (fun x hx => h x (by simp [hx]))]
def cntS : List UInt8 → Nat
  | [] => 0
  | c :: l => (if c = 59 then 1 else 0) + cntS l
theorem cntS_append : ∀ a b : List UInt8, cntS (a ++ b) = cntS a + cntS b
  | [], b => by simp [cntS]
  | c :: a, b => by rw [List.cons_append, cntS, cntS, cntS_append a b]; omega
theorem cntS_zero : ∀ {a : List UInt8}, (∀ x ∈ a, x ≠ 59) → cntS a = 0
  | [], _ => rfl
  | c :: a, h => by rw [cntS, if_neg (h c (by simp)), cntS_zero (fun x hx => h x (by simp [hx]))]
theorem splitL_length : ∀ l : List UInt8, (splitL l).length = cntS l + 1
  | [] => rfl
  | c :: l => by
    have ih := splitL_length l
    unfold splitL cntS
    split
    · simp; omega
    · split
      · rename_i h t e
        rw [e] at ih
        simp at ih ⊢
        omega
      · rename_i e
        exact absurd e (splitL_ne l)
theorem cntS_pos : ∀ {l : List UInt8}, 0 < cntS l → ∃ a b, l = a ++ 59 :: b ∧ ∀ x ∈ a, x ≠ 59
  | [], h => by simp [cntS] at h
  | c :: l, h => by
    by_cases hc : c = 59
    · subst hc
      exact ⟨[], l, rfl, by simp⟩
    · rw [cntS, if_neg hc] at h
      obtain ⟨a, b, rfl, hab⟩ := cntS_pos (l := l) (by omega)
      refine ⟨c :: a, b, rfl, fun x hx => ?_⟩
      rcases List.mem_cons.1 hx with rfl | hx
      · exact hc
      · exact hab x hx
theorem cntS_none : ∀ {l : List UInt8}, cntS l = 0 → ∀ x ∈ l, x ≠ 59
  | [], _ => by simp
  | c :: l, h => by
    rw [cntS] at h
    intro x hx
    rcases List.mem_cons.1 hx with rfl | hx
    · intro e
      rw [if_pos e] at h
      omega
    · exact cntS_none (by omega) x hx
theorem extractB (l : List UInt8) (a b : Nat) : (⟨⟨l⟩⟩ : ByteArray).extract a b = ⟨⟨(l.take b).drop a⟩⟩ := by
  apply ByteArray.ext
  rw [ByteArray.data_extract]
  apply Array.toList_inj.1
  rw [Array.toList_extract]
  show (l.drop a).take (b - a) = (l.take b).drop a
  rw [List.drop_take]
theorem sizeB (l : List UInt8) : (⟨⟨l⟩⟩ : ByteArray).size = l.length := rfl
/-- all parts read -/
def allP : List (List UInt8) → Option (List (List Tm))
  | [] => some []
  | a :: r => (polyF ⟨⟨a⟩⟩).bind fun X => (allP r).map fun l => X.ts :: l
theorem allP_snoc : ∀ (A : List (List UInt8)) (a : List UInt8), allP (A ++ [a]) = (allP A).bind fun l => (polyF ⟨⟨a⟩⟩).map fun X => l ++ [X.ts]
  | [], a => by
    simp only [List.nil_append, allP, Option.bind_some]
    cases polyF ⟨⟨a⟩⟩ <;> rfl
  | b :: A, a => by
    rw [List.cons_append, allP, allP, allP_snoc A a]
    cases polyF ⟨⟨b⟩⟩ with
    | none => rfl
    | some X =>
      simp only [Option.bind_some]
      cases allP A with
      | none => rfl
      | some l =>
        simp only [Option.bind_some, Option.map_some]
        cases polyF ⟨⟨a⟩⟩ <;> rfl
theorem allP_len : ∀ {A : List (List UInt8)} {l : List (List Tm)}, allP A = some l → l.length = A.length ∧ ∀ p ∈ l, p.length ≤ 20
  | [], l, h => by cases h; simp
  | a :: A, l, h => by
    rw [allP] at h
    obtain ⟨X, hX, h⟩ := Option.bind_eq_some_iff.1 h
    obtain ⟨l', hl, rfl⟩ := Option.map_eq_some_iff.1 h
    obtain ⟨h1, h2⟩ := allP_len hl
    refine ⟨by simp [h1], fun p hp => ?_⟩
    rcases List.mem_cons.1 hp with rfl | hp
    · have := polyL_len ⟨⟨a⟩⟩
      unfold polyL at this
      rw [hX] at this
      exact this
    · exact h2 p hp
theorem allP_none {A : List (List UInt8)} {k : Nat} (h : allP (A.take k) = none) : allP A = none := by
  have : A = A.take k ++ A.drop k := (List.take_append_drop k A).symm
  rw [this]
  generalize A.drop k = B
  generalize A.take k = C at h
  clear this
  induction B generalizing C with
  | nil => simpa using h
  | cons b B ih =>
    have e : C ++ b :: B = (C ++ [b]) ++ B := by simp
    rw [e]
    exact ih _ (by rw [allP_snoc, h]; rfl)
/-- the system that a text tells -/
def readSys (l : List UInt8) : Option (List (List Tm)) :=
  if (splitL l).getLast? = some [] ∧ (splitL l).length ≤ 4 then (allP (splitL l).dropLast).bind fun ss => if goodSS ss = true then some ss else none else none
end Go.Proofs.YtooaafekllkpbaaDoor

/- The rows' arguments: what a law of this seat is handed, told of the abstract heap; no condition. -/
namespace Go.Proofs.YtooaafekllkpbaaDoor
open Go.Ab
set_option linter.unusedSimpArgs false
set_option linter.unusedVariables false
set_option maxRecDepth 100000
theorem own : ownKnob Tryd.prog.godebug = none := by kernel_rfl
theorem laidOut : laidOutB Tryd.prog = true := by kernel_rfl
theorem shp1 {P : Program} {H : AHeap} {n a} {avs : List Value} (h : ShpAll P H n [a] avs) : ∃ v, avs = [v] ∧ ShpV P H n a v := by
  match avs, h with
  | [v], h => exact ⟨v, rfl, h.1⟩
end Go.Proofs.YtooaafekllkpbaaDoor

/- The rows' arguments: texts; no condition. -/
namespace Go.Proofs.YtooaafekllkpbaaDoor
open Go.Ab
set_option linter.unusedSimpArgs false
set_option linter.unusedVariables false
set_option maxRecDepth 100000
theorem shp_str {H : AHeap} {n : Nat} {v : Value} (h : ShpV Tryd.prog H (n + 1) 9 v) : ∃ s, v = .string s ∧ s.size ≤ reachBytes := by
  unfold ShpV Shp at h
  simp only [Tryd.underlying9] at h
  obtain ⟨s, h, h2⟩ := h
  cases h
  exact ⟨s, rfl, h2⟩
end Go.Proofs.YtooaafekllkpbaaDoor
