/- Parts of the proof of a statement of this seat: contracts of functions that the law calls, or the law's own row; no condition. -/
import Derived.Test.YtldpdjpchcoigaaGreatM4
/- Long numbers, the program: made of a number and a power of 2, signs, the sign of a polynomial's value; no condition beyond stated ranges. -/
namespace Go.Proofs.YtldpdjpchcoigaaGreat
open Go.Ab Ints
set_option linter.unusedSimpArgs false
set_option linter.unusedVariables false

theorem bsliceU3 (H : AHeap) (x y z : Int) : bsliceH H 3 [.int .u32 0, .int .u32 0, .int .u32 0] [(0, 1, .int .u32 x), (1, 1, .int .u32 y), (2, 1, .int .u32 z)] = some (.slice (some ⟨H.next, 0, some 0⟩) 3 3, H.alloc [.int .u32 x, .int .u32 y, .int .u32 z]) := by
  simp [bsliceH, fillV, cellsV]
theorem mk_u32 (H : AHeap) (n : Nat) (hn : n ≤ 1000) : mksliceH H 4 [.int .u32 0] (.int .i64 n) (.int .i64 n) = some (.slice (some ⟨H.next, 0, some 0⟩) n n, H.alloc (List.replicate n (du 0))) := by
  rw [mkslice_int 4 n n [.int .u32 0] (Nat.le_refl _) (by omega) (by omega), zerosL_one]
  rfl
theorem VecU.mk' (H : AHeap) (n : Nat) : VecU (H.alloc (List.replicate n (du 0))) H.next (.slice (some ⟨H.next, 0, some 0⟩) n n) (List.replicate n 0) := by
  show Vec _ _ _ (List.replicate n (0 : Nat)).length 1 ((List.replicate n (0 : Nat)).map du)
  rw [List.length_replicate, List.map_replicate]
  exact Vec.lit (by simp)
theorem b32_two (q : Nat) : (4294967296 : Nat) ^ q = 2 ^ (32 * q) := by
  rw [Nat.pow_mul]
theorem fillL2 {H : AHeap} {w : Value} {n : Nat} {cells : List Value} (b : Bool) (h : Sl H w n 1 cells) : fillV [.bool false, .slice none 0 0] [(0, 1, .bool b), (1, 1, w)] = some [.bool b, w] := by
  obtain ⟨_, a, cap, rfl, _⟩ := h
  simp [fillV, cellsV]
theorem longOf_ok (lim : Nat) (n : Int) (k : Nat) (H : AHeap) (hl : lim ≤ H.next) (hn : n.natAbs ≤ 4611686018427387904) (hk : k ≤ 1000) :
    ACalls Tryz.prog lim n_impl_longOf [.int .i64 n, .int .i64 (k : Int)] H fun u H' => (∃ (s : Bool) (E : List Nat), Lg H' u s E ∧ lsv s E = n * 2 ^ k ∧ E.length = k / 32 + 3) ∧ Ext H H' := by
  refine is_impl_longOf.go rfl ?_
  unfold c_impl_longOf
  refine s_reg ?_
  simp only [o_eff, o_nil, EOp.ev, env0, gu, setD, List.set, Option.some.injEq, exists_eq_left']
  have hx1 := Ext.alloc H [.bool false, .slice none 0 0]
  have hb1 := alloc_new H [.bool false, .slice none 0 0]
  have hl1 : (H.alloc [.bool false, .slice none 0 0]).next = H.next + 1 := rfl
  generalize H.alloc [.bool false, .slice none 0 0] = H1 at hx1 hb1 hl1 ⊢
  have e32 : ¬ (32 : Int) = 0 := by decide
  have t32 : (k : Int).tmod 32 = ((k % 32 : Nat) : Int) := rfl
  have q32 : (k : Int).tdiv 32 = ((k / 32 : Nat) : Int) := rfl
  have bb : IntKind.u64.bits = 64 := rfl
  have m1 : min (((k % 32 : Nat) : Int)).toNat IntKind.u64.bits = k % 32 := by rw [bb]; omega
  have nk : ¬ ((k % 32 : Nat) : Int) < 0 := by omega
  have hr : k % 32 < 32 := Nat.mod_lt _ (by decide)
  have hkk : k = 32 * (k / 32) + k % 32 := by omega
  generalize hre : k % 32 = r at *
  generalize hqe : k / 32 = q at *
  have hq31 : q ≤ 31 := by omega
  generalize hN : n.natAbs = N at *
  have s1 : IntKind.u64.wrap ((N : Int) * 2 ^ r) = ((N * 2 ^ r % 18446744073709551616 : Nat) : Int) := by
    rw [u64_wrap, ← pow_nat, ← Int.natCast_mul]; rfl
  have h64 : (18446744073709551616 : Nat) = 2 ^ (64 - r) * 2 ^ r := by rw [← Nat.pow_add, show 64 - r + r = 64 by omega]
  have ehi : N / 2 ^ (64 - r) = N * 2 ^ r / 18446744073709551616 := by
    rw [h64, Nat.mul_div_mul_right _ _ (Nat.two_pow_pos r)]
  have hhi : N * 2 ^ r / 18446744073709551616 < 4294967296 := by
    have : 2 ^ r ≤ 2 ^ 31 := Nat.pow_le_pow_right (by decide) (by omega)
    have : N * 2 ^ r ≤ 4611686018427387904 * 2 ^ 31 := Nat.mul_le_mul hn this
    omega
  refine s_reg ?_
  simp only [o_pure, o_callF, POp.ev, Opd.ev, gv, setD, List.map, Option.some.injEq, exists_eq_left']
  refine (size_ok _ n H1 (by omega)).mono ?_
  rintro _ HH ⟨rfl, hh⟩
  subst HH
  rw [hN]
  simp only [o_cont, o_pure, o_nil, POp.ev, Opd.ev, gv, setD, List.set, Option.some.injEq, exists_eq_left', binV, ne_eq, not_true_eq_false, if_false, e32, t32, nk, m1, s1]
  refine s_cut (fun e' H' => H' = H1 ∧ e' = [.int .i64 n, .int .i64 (k : Int), .pointer (some ⟨H.next, 0, none⟩), .int .u64 ((N * 2 ^ r % 18446744073709551616 : Nat) : Int), .int .u64 ((N * 2 ^ r / 18446744073709551616 : Nat) : Int), undef]) ?_ ?_
  · refine s_test1 ?_
    simp only [o_pure, o_nil, POp.ev, Opd.ev, gv, setD, Option.some.injEq, exists_eq_left', binV, ne_eq, not_true_eq_false, if_false, e32, t32]
    refine Test.split (fun hh => ?_) (fun hh => ?_)
    · have w64 : IntKind.i64.wrap (64 - (r : Int)) = ((64 - r : Nat) : Int) := by rw [show (64 : Int) - r = ((64 - r : Nat) : Int) by omega]; exact wr_nat (by omega)
      have m2 : min (((64 - r : Nat) : Int)).toNat IntKind.u64.bits = 64 - r := by rw [bb]; omega
      have nk2 : ¬ ((64 - r : Nat) : Int) < 0 := by omega
      refine s_reg1 ?_
      simp only [o_pure, o_callF, POp.ev, Opd.ev, gv, setD, List.map, Option.some.injEq, exists_eq_left']
      refine (size_ok _ n H1 (by omega)).mono ?_
      rintro _ HH ⟨rfl, hh⟩
      subst HH
      rw [hN]
      simp only [o_cont, o_pure, o_nil, POp.ev, Opd.ev, gv, setD, List.set, Option.some.injEq, exists_eq_left', binV, ne_eq, not_true_eq_false, if_false, e32, t32, w64, nk2, m2, shr_nat, ehi]
      simp +decide only [p_seq_normal]
    · have hr0 : r = 0 := by have := of_decide_eq_false hh; omega
      refine s_skip1 ?_
      simp +decide only [p_seq_normal]
      refine ⟨trivial, ?_⟩
      have : N * 2 ^ r / 18446744073709551616 = 0 := by rw [hr0, Nat.pow_zero, Nat.mul_one]; omega
      rw [this]
      rfl
  · rintro e' _ ⟨rfl, rfl⟩
    generalize hLO : N * 2 ^ r % 18446744073709551616 = lo at *
    generalize hHI : N * 2 ^ r / 18446744073709551616 = hi at *
    have hlo : lo < 18446744073709551616 := by rw [← hLO]; exact Nat.mod_lt _ (by decide)
    have hsum : N * 2 ^ r = lo + 18446744073709551616 * hi := by rw [← hLO, ← hHI]; omega
    refine s_reg ?_
    simp only [o_pure, o_eff, o_nil, POp.ev, Opd.ev, EOp.ev, gv, setD, List.set, Option.some.injEq, exists_eq_left', binV, ne_eq, not_true_eq_false, if_false, e32, q32, show IntKind.i64.wrap ((q : Nat) : Int) = (q : Int) from wr_nat (by omega), mk_u32 _ q (by omega)]
    rename_i H1
    have hv := VecU.mk' H1 q
    have hx2 := Ext.alloc H1 (List.replicate q (du 0))
    have hl2 : (H1.alloc (List.replicate q (du 0))).next = H1.next + 1 := rfl
    replace hb1 := (hx2.blk _ (by omega)).trans hb1
    generalize H1.alloc (List.replicate q (du 0)) = H2 at hv hx2 hl2 hb1 ⊢
    generalize (Value.slice (some ⟨H1.next, 0, some 0⟩) q q) = w at hv ⊢
    have c1 : IntKind.u32.wrap (lo : Int) = ((lo % 4294967296 : Nat) : Int) := u32_nat lo
    have c2 : IntKind.u32.wrap ((lo / 4294967296 : Nat) : Int) = ((lo / 4294967296 : Nat) : Int) := by rw [u32_nat, Nat.mod_eq_of_lt (by omega)]
    have c3 : IntKind.u32.wrap (hi : Int) = (hi : Int) := by rw [u32_nat, Nat.mod_eq_of_lt hhi]
    have hlit : Vec (H2.alloc [du (lo % 4294967296), du (lo / 4294967296), du hi]) H2.next (.slice (some ⟨H2.next, 0, some 0⟩) 3 3) 3 1 [du (lo % 4294967296), du (lo / 4294967296), du hi] := Vec.lit rfl
    obtain ⟨v', H3, b', g1, g2, g3, g4, g5⟩ := (Vec.ext hv (Ext.alloc H2 [du (lo % 4294967296), du (lo / 4294967296), du hi])).append (lim := lim) (by omega) hlit.sl (by decide) (bytes := 4) (by rw [List.length_replicate]; omega)
    rw [List.length_replicate] at g2
    have g2' : VecU H3 b' v' (List.replicate q 0 ++ [lo % 4294967296, lo / 4294967296, hi]) := by
      show Vec H3 b' v' (List.replicate q 0 ++ [lo % 4294967296, lo / 4294967296, hi]).length 1 _
      rw [List.length_append, List.map_append, List.length_replicate]
      exact g2
    have hn3 := g4.next
    have hxa := Ext.alloc H2 [du (lo % 4294967296), du (lo / 4294967296), du hi]
    have hna : (H2.alloc [du (lo % 4294967296), du (lo / 4294967296), du hi]).next = H2.next + 1 := rfl
    have hb3 := (g4.blk H.next (by omega) (by omega)).trans ((hxa.blk _ (by omega)).trans hb1)
    have hne : b' ≠ H.next := by rcases g3 with rfl | ⟨rfl, _⟩ <;> omega
    refine s_reg ?_
    simp only [o_pure, o_eff, o_nil, POp.ev, Opd.ev, EOp.ev, gv, setD, List.map, Option.map_some, Option.some.injEq, exists_eq_left', binV, convV, ne_eq, not_true_eq_false, if_false, n32, m32_64, shr32, c1, c2, c3, bsliceU3, g1, fillL2 _ g2'.sl, store2 (lim := lim) hl hb3]
    refine s_ret1 ?_
    simp +decide only [p_fin_ret, resV, resOne, gv, Option.some.injEq, exists_eq_left', load2 (put_same _ _ _)]
    have hxx : Ext H H3 := Chg.ext ((hx1.trans hx2).trans hxa) g4 (by omega)
    refine ⟨⟨decide (n < 0), _, ⟨v', rfl, (Vec.chg g2' (Chg.put _ _ _) hne).sl, ?_⟩, ?_, by simp⟩, Chg.ext hxx (Chg.put _ _ _) (Nat.le_refl _)⟩
    · intro d hd
      rcases List.mem_append.1 hd with hd | hd
      · rw [(List.mem_replicate.1 hd).2]; decide
      · simp only [List.mem_cons, List.not_mem_nil, or_false] at hd
        rcases hd with rfl | rfl | rfl
        · exact Nat.mod_lt _ (by decide)
        · omega
        · exact hhi
    · have hd : dval (List.replicate q 0 ++ [lo % 4294967296, lo / 4294967296, hi]) = N * 2 ^ k := by
        rw [dval_append, dval_zeros, List.length_replicate, Nat.zero_add]
        have : dval [lo % 4294967296, lo / 4294967296, hi] = N * 2 ^ r := by
          simp only [dval, Nat.mul_zero, Nat.add_zero]
          rw [hsum]
          omega
        rw [this, b32_two, Nat.mul_left_comm, ← Nat.pow_add, ← hkk]
      unfold lsv
      rw [hd, Int.natCast_mul, pow_nat, ← hN]
      by_cases hneg : n < 0
      · rw [decide_eq_true hneg, if_pos rfl, show (n.natAbs : Int) = -n by omega, Int.neg_mul, Int.neg_neg]
      · rw [decide_eq_false hneg, if_neg (by decide), show (n.natAbs : Int) = n by omega]
theorem nz_ok (lim d : Nat) (H : AHeap) : ACalls Tryz.prog lim n_impl_long_sign_1 [du d] H fun v H' => v = .bool (d != 0) ∧ H' = H := by
  refine is_impl_long_sign_1.go rfl ?_
  unfold c_impl_long_sign_1
  refine s_reg ?_
  simp only [o_pure, o_nil, POp.ev, Opd.ev, env0, gu, setD, List.set, Option.some.injEq, exists_eq_left']
  refine s_reg ?_
  simp only [o_pure, o_nil, POp.ev, Opd.ev, gv, setD, List.set, Option.some.injEq, exists_eq_left', binV, ne_eq, not_true_eq_false, if_false]
  refine s_ret1 ?_
  simp +decide only [p_fin_ret, resV, resOne, gv, Option.some.injEq, exists_eq_left']
  have e : ((d : Int) != 0) = (d != 0) := by cases d <;> rfl
  exact ⟨by rw [e], trivial⟩
theorem indexU_ok (lim : Nat) (s : Value) (l : List Nat) (H : AHeap) (hs : SlU H s l) (hn : l.length ≤ 1000000000) :
    ACalls Tryz.prog lim n_slices_IndexFunc_S_uint32_uint32 [s, .func (.func n_impl_long_sign_1) #[] #[]] H fun v H' => (∃ r : Int, v = .int .i64 r ∧ decide (r ≥ 0) = (l.any fun n => n != 0)) ∧ H' = H := by
  refine is_slices_IndexFunc_S_uint32_uint32.go rfl ?_
  unfold c_slices_IndexFunc_S_uint32_uint32
  refine s_reg ?_
  simp only [o_pure, o_nil, POp.ev, Opd.ev, env0, gu, setD, List.set, Option.some.injEq, exists_eq_left']
  refine s_assoc (s_reg ?_)
  simp only [o_pure, o_nil, POp.ev, Opd.ev, gv, setD, List.set, Option.some.injEq, exists_eq_left', Sl.lenV hs]
  refine s_block ?_
  refine s_loop1 (fun k e' H' => H' = H ∧ ∃ (i : Nat) (x : Value), i + k = l.length ∧ (l.any fun n => n != 0) = ((l.drop i).any fun n => n != 0) ∧ e' = [s, .func (.func n_impl_long_sign_1) #[] #[], .int .i64 0, x, .int .i64 l.length, .int .i64 i]) l.length ⟨rfl, 0, _, by omega, by simp, rfl⟩ ?_
  rintro k e' H ⟨rfl, i, x, hik, hall, rfl⟩
  refine s_test ?_
  simp only [o_pure, o_nil, POp.ev, Opd.ev, gv, setD, Option.some.injEq, exists_eq_left', binV, ne_eq, not_true_eq_false, if_false]
  refine Test.split (fun hlt => ?_) (fun hlt => ?_)
  · have hlt' : i < l.length := by simpa using hlt
    rw [List.drop_eq_getElem_cons hlt', List.any_cons] at hall
    refine s_skip1 ?_
    simp +decide only [p_seq_normal]
    refine s_block ?_
    refine s_reg ?_
    simp only [o_pure, o_nil, POp.ev, Opd.ev, gv, setD, List.set, Option.some.injEq, exists_eq_left']
    refine s_test1 ?_
    obtain ⟨bb, o, h1, h2, h3⟩ := SlU.get hs hlt'
    simp only [o_callT, callV_fn, o_pure, POp.ev, Opd.ev, gv, setD, List.map, Option.some.injEq, exists_eq_left', load1V, h1, h3]
    refine (nz_ok _ _ _).eq ?_
    simp only [o_cont, o_nil, gv, setD]
    refine Test.split (fun hv => ?_) (fun hv => ?_)
    · refine s_reg ?_
      simp only [o_pure, o_nil, POp.ev, Opd.ev, gv, setD, List.set, Option.some.injEq, exists_eq_left']
      refine s_ret1 ?_
      simp +decide only [p_seq_ret, p_block_ret, p_fin_ret, resV, resOne, gv, Option.some.injEq, exists_eq_left']
      rw [hv, Bool.true_or] at hall
      exact ⟨⟨_, rfl, by rw [hall]; simp⟩, trivial⟩
    · refine s_skip1 ?_
      simp +decide only [p_seq_normal, p_block_normal]
      refine s_reg1 ?_
      simp only [o_pure, o_nil, POp.ev, Opd.ev, gv, setD, List.set, Option.some.injEq, exists_eq_left', binV, ne_eq, not_true_eq_false, if_false, add1 (i := i) (by omega)]
      simp +decide only [p_seq_normal]
      rw [hv, Bool.false_or] at hall
      exact Round.mk (k - 1) (by omega) ⟨rfl, i + 1, _, by omega, hall, rfl⟩
  · refine s_exit1 ?_
    simp +decide only [p_seq_normal, p_seq_exit, p_block_exit, reduceIte]
    have hge : l.length ≤ i := by simp at hlt; omega
    rw [List.drop_of_length_le hge] at hall
    refine s_reg ?_
    simp only [o_pure, o_nil, POp.ev, Opd.ev, setD, List.set, Option.some.injEq, exists_eq_left']
    refine s_ret1 ?_
    simp +decide only [p_fin_ret, resV, resOne, gv, Option.some.injEq, exists_eq_left']
    exact ⟨⟨_, rfl, by rw [hall]; simp⟩, trivial⟩
theorem containsU_ok (lim : Nat) (s : Value) (l : List Nat) (H : AHeap) (hs : SlU H s l) (hn : l.length ≤ 1000000000) :
    ACalls Tryz.prog lim n_slices_ContainsFunc_S_uint32_uint32 [s, .func (.func n_impl_long_sign_1) #[] #[]] H fun v H' => v = .bool (l.any fun n => n != 0) ∧ H' = H := by
  refine is_slices_ContainsFunc_S_uint32_uint32.go rfl ?_
  unfold c_slices_ContainsFunc_S_uint32_uint32
  refine s_reg ?_
  simp only [o_pure, o_nil, POp.ev, Opd.ev, env0, gu, setD, List.set, Option.some.injEq, exists_eq_left']
  refine s_reg ?_
  simp only [o_pure, o_callF, POp.ev, Opd.ev, gv, setD, List.map, Option.some.injEq, exists_eq_left']
  refine (indexU_ok _ _ _ _ hs hn).mono ?_
  rintro v H1 ⟨⟨r, rfl, hr⟩, rfl⟩
  simp only [o_cont, o_pure, o_nil, POp.ev, Opd.ev, gv, setD, List.set, Option.some.injEq, exists_eq_left', binV, ne_eq, not_true_eq_false, if_false]
  refine s_ret1 ?_
  simp +decide only [p_fin_ret, resV, resOne, gv, Option.some.injEq, exists_eq_left']
  simp only [hr, and_self]
theorem lsign_ok (lim : Nat) (v : Value) (b : Bool) (D : List Nat) (H : AHeap) (h : Lg H v b D) (hn : D.length ≤ 1000000) :
    ACalls Tryz.prog lim n_impl_long_sign [v] H fun u H' => u = .int .i64 (sgn3 (lsv b D)) ∧ Ext H H' := by
  obtain ⟨w, rfl, hw, _⟩ := h
  refine is_impl_long_sign.go rfl ?_
  unfold c_impl_long_sign
  refine s_reg ?_
  simp only [o_pure, o_eff, o_nil, POp.ev, Opd.ev, EOp.ev, env0, gu, gv, setD, List.set, Option.map_some, Option.some.injEq, exists_eq_left', boxH, cellsV]
  have hx := Ext.alloc H [.bool b, w]
  have hb := alloc_new H [.bool b, w]
  generalize H.alloc [.bool b, w] = H1 at hx hb ⊢
  refine s_test ?_
  simp only [o_pure, o_callF, POp.ev, Opd.ev, gv, setD, List.map, Option.some.injEq, exists_eq_left', load1V, fadV, List.getElem?_cons_zero, List.getElem?_cons_succ, Nat.zero_add, cell_blk hb]
  refine (containsU_ok _ w D H1 (SlU.ext hw hx) (by omega)).eq ?_
  simp only [o_cont, o_pure, o_nil, POp.ev, Opd.ev, gv, setD, Option.some.injEq, exists_eq_left', unV, ne_eq, dval_any]
  refine Test.split (fun hh => ?_) (fun hh => ?_)
  · have h0 : dval D = 0 := by simpa using hh
    refine s_reg ?_
    simp only [o_pure, o_nil, POp.ev, Opd.ev, setD, List.set, Option.some.injEq, exists_eq_left']
    refine s_ret1 ?_
    simp +decide only [p_seq_ret, p_fin_ret, resV, resOne, gv, Option.some.injEq, exists_eq_left']
    refine ⟨?_, hx⟩
    unfold lsv
    rw [h0]
    cases b <;> rfl
  · have h0 : dval D ≠ 0 := by simpa using hh
    refine s_skip1 ?_
    simp +decide only [p_seq_normal]
    refine s_test ?_
    simp only [o_pure, o_nil, POp.ev, Opd.ev, gv, setD, Option.some.injEq, exists_eq_left', load1V, fadV, List.getElem?_cons_zero, Nat.zero_add, cell_blk hb]
    refine Test.split (fun hg => ?_) (fun hg => ?_)
    · refine s_reg ?_
      simp only [o_pure, o_nil, POp.ev, Opd.ev, setD, List.set, Option.some.injEq, exists_eq_left']
      refine s_ret1 ?_
      simp +decide only [p_seq_ret, p_fin_ret, resV, resOne, gv, Option.some.injEq, exists_eq_left']
      refine ⟨?_, hx⟩
      rw [hg]
      unfold lsv
      rw [if_pos rfl, sg3n (by omega)]
    · refine s_skip1 ?_
      simp +decide only [p_seq_normal]
      refine s_reg ?_
      simp only [o_pure, o_nil, POp.ev, Opd.ev, setD, List.set, Option.some.injEq, exists_eq_left']
      refine s_ret1 ?_
      simp +decide only [p_fin_ret, resV, resOne, gv, Option.some.injEq, exists_eq_left']
      refine ⟨?_, hx⟩
      rw [hg]
      unfold lsv
      rw [if_neg (by decide), sg3p (by omega)]
theorem hv_cons (n b a : Int) (p : List Int) : hv n b (a :: p) = a * b ^ p.length + n * hv n b p := rfl
theorem signAt_ok (lim : Nat) (s : Value) (p : List Int) (N : Int) (K : Nat) (H : AHeap) (hl : lim ≤ H.next) (hs : SlI H s p) (hn : p.length ≤ 20) (hp : ∀ x ∈ p, x.natAbs ≤ 4611686018427387904) (hN : N.natAbs < 4294967296) (hK : K ≤ 40) :
    ACalls Tryz.prog lim n_impl_signAt [s, .agg #[.int .i64 N, .int .i64 (K : Int)]] H fun v H' => v = .int .i64 (sgn3 (hv N (2 ^ K) p)) ∧ Ext H H' := by
  refine is_impl_signAt.go rfl ?_
  unfold c_impl_signAt
  refine s_reg ?_
  simp only [o_pure, o_eff, o_nil, POp.ev, Opd.ev, EOp.ev, env0, gu, gv, setD, List.set, Option.map_some, Option.some.injEq, exists_eq_left', boxH, cellsV]
  have hx1 := Ext.alloc H [.int .i64 N, .int .i64 (K : Int)]
  have hb1 := alloc_new H [.int .i64 N, .int .i64 (K : Int)]
  have hl1 : (H.alloc [.int .i64 N, .int .i64 (K : Int)]).next = H.next + 1 := rfl
  generalize H.alloc [.int .i64 N, .int .i64 (K : Int)] = H1 at hx1 hb1 hl1 ⊢
  have hf0 : fillV [.bool false, .slice none 0 0] [] = some [.bool false, .slice none 0 0] := rfl
  refine s_reg ?_
  simp only [o_pure, o_eff, o_nil, POp.ev, Opd.ev, EOp.ev, gv, setD, List.set, List.map, Option.map_some, Option.some.injEq, exists_eq_left', hf0, store2_new (lim := lim) (H := H1) (show lim ≤ H1.next by omega)]
  have hx2 := Ext.alloc H1 [.bool false, .slice none 0 0]
  have hb4 := alloc_new H1 [.bool false, .slice none 0 0]
  have hl2 : (H1.alloc [.bool false, .slice none 0 0]).next = H1.next + 1 := rfl
  replace hb1 := (hx2.blk _ (by omega)).trans hb1
  generalize H1.alloc [.bool false, .slice none 0 0] = H2 at hx2 hb1 hb4 hl2 ⊢
  have hx := hx1.trans hx2
  generalize hq2 : H.next = q2 at *
  generalize hq4 : H1.next = q4 at *
  have wL : IntKind.i64.wrap ((p.length : Int) - 1) = (p.length : Int) - 1 := wr_id (by omega) (by omega)
  refine s_assoc (s_reg ?_)
  simp only [o_pure, o_nil, POp.ev, Opd.ev, gv, setD, List.set, Option.some.injEq, exists_eq_left', binV, ne_eq, not_true_eq_false, if_false, Sl.lenV (SlI.ext hs hx), wL]
  refine s_block ?_
  refine s_loop1 (fun k e' H' => k ≤ p.length ∧ ∃ (b : Bool) (D : List Nat) (w : Value) (c : Nat), H'.blk q2 = some [.int .i64 N, .int .i64 (K : Int)] ∧ H'.blk q4 = some [.bool b, w] ∧ q4 < H'.next ∧ q4 < c ∧ VecU H' c w D ∧ dOk D ∧ lsv b D = hv N (2 ^ K) (p.drop k) ∧ D.length ≤ 50 + 2 * (p.length - k) ∧ Ext H H' ∧
    e' = [s, .agg #[.int .i64 N, .int .i64 (K : Int)], .pointer (some ⟨q2, 0, none⟩), .int .i64 0, .pointer (some ⟨q4, 0, none⟩), .int .i64 ((k : Int) - 1)]) p.length
    ⟨Nat.le_refl _, false, [], _, q4 + 1, hb1, hb4, by omega, by omega, Vec.nil _ _ _, (by intro d hd; cases hd), by rw [List.drop_length]; rfl, by simp, hx, rfl⟩ ?_
  clear hb1 hb4 hx hx1 hx2
  rintro k e' G ⟨hkp, b, D, w, c, hb2, hb4, hq4l, hqc, hv, hok, hval, hlen, hx, rfl⟩
  have hnG := hx.next
  refine s_test ?_
  simp only [o_pure, o_nil, POp.ev, Opd.ev, gv, setD, Option.some.injEq, exists_eq_left', binV, ne_eq, not_true_eq_false, if_false]
  refine Test.split (fun hlt => ?_) (fun hlt => ?_)
  · obtain ⟨i, rfl⟩ : ∃ i, k = i + 1 := ⟨k - 1, by have := of_decide_eq_true hlt; omega⟩
    have ei : ((i + 1 : Nat) : Int) - 1 = (i : Int) := by omega
    rw [ei]
    have hi : i < p.length := by omega
    obtain ⟨bb, o, g1, g2, g3⟩ := SlI.get (SlI.ext hs hx) hi
    have hpi := hp _ (List.getElem_mem hi)
    have lenG := Sl.lenV (SlI.ext hs hx)
    have w2 : IntKind.i64.wrap ((p.length : Int) - 1 - (i : Int)) = ((p.length - 1 - i : Nat) : Int) := by rw [show (p.length : Int) - 1 - i = ((p.length - 1 - i : Nat) : Int) by omega]; exact wr_nat (by omega)
    have hm800 : K * (p.length - 1 - i) ≤ 40 * 20 := Nat.mul_le_mul hK (by omega)
    have w3 : IntKind.i64.wrap ((K : Int) * ((p.length - 1 - i : Nat) : Int)) = ((K * (p.length - 1 - i) : Nat) : Int) := by rw [← Int.natCast_mul]; exact wr_nat (by omega)
    refine s_skip1 ?_
    simp +decide only [p_seq_normal]
    refine s_block ?_
    refine s_reg1 ?_
    simp only [o_pure, o_callN, POp.ev, Opd.ev, gv, setD, List.map, Option.some.injEq, exists_eq_left', binV, load1V, fadV, ne_eq, not_true_eq_false, if_false, List.getElem?_cons_zero, List.getElem?_cons_succ, load2 hb4, Nat.zero_add, cell_blk hb2, g1, g3, lenG, wL, w2, w3]
    refine (times_ok _ _ b D N G (Nat.le_refl _) ⟨w, rfl, hv.sl, hok⟩ (by omega) hN).use ?_
    rintro u1 G1 ⟨⟨s1, E1, hu1, hv1, hl1'⟩, hg1⟩ _
    have hn1 := hg1.next
    simp only [o_cont, o_callF, Opd.ev, gv, setD, List.map]
    refine (longOf_ok lim p[i] (K * (p.length - 1 - i)) G1 (by omega) (by omega) (by omega)).mono ?_
    rintro u2 G2 ⟨⟨s2, E2, hu2, hv2, hl2'⟩, hg2⟩
    have hn2 := hg2.next
    have hl3 : K * (p.length - 1 - i) / 32 + 3 ≤ 28 := by omega
    simp only [o_cont, o_callF, Opd.ev, gv, setD, List.map]
    refine (plus_ok lim u1 u2 s1 s2 E1 E2 G2 (by omega) (Lg.ext hu1 hg2) hu2 (by omega) (by omega)).mono ?_
    rintro _ G3 ⟨⟨s3, E3, ⟨w3', c3, rfl, hc3, hv3, hok3⟩, hsum, hl3'⟩, hg3⟩
    have hn3 := hg3.next
    replace hb2 := (((hg1.trans hg2).trans hg3).blk _ (by omega)).trans hb2
    replace hb4 := (((hg1.trans hg2).trans hg3).blk _ (by omega)).trans hb4
    simp only [o_cont, o_eff, o_nil, Opd.ev, EOp.ev, gv, setD, Option.some.injEq, exists_eq_left', store2 (lim := lim) (show lim ≤ q4 by omega) hb4]
    simp +decide only [p_seq_normal, p_block_normal]
    have w4 : IntKind.i64.wrap ((i : Int) - 1) = (i : Int) - 1 := wr_id (by omega) (by omega)
    refine s_reg1 ?_
    simp only [o_pure, o_nil, POp.ev, Opd.ev, gv, setD, List.set, Option.some.injEq, exists_eq_left', binV, ne_eq, not_true_eq_false, if_false, w4]
    simp +decide only [p_seq_normal]
    refine Round.mk i (by omega) ⟨by omega, s3, E3, w3', c3, by rw [put_ne _ _ (by omega)]; exact hb2, put_same _ _ _, by rw [put_next]; omega, by omega, Vec.chg hv3 (Chg.put _ _ _) (by omega), hok3, ?_, by omega, Chg.ext (((hx.trans hg1).trans hg2).trans hg3) (Chg.put _ _ _) (by omega), rfl⟩
    rw [hsum, hv1, hv2, hval, List.drop_eq_getElem_cons hi, hv_cons, List.length_drop, ← Int.pow_mul, show p.length - (i + 1) = p.length - 1 - i by omega, Int.mul_comm N, Int.add_comm]
  · have hk : k = 0 := by have := of_decide_eq_false hlt; omega
    subst hk
    rw [List.drop_zero] at hval
    refine s_exit1 ?_
    simp +decide only [p_seq_normal, p_seq_exit, p_block_exit, reduceIte]
    refine s_reg ?_
    simp only [o_pure, o_callF, POp.ev, Opd.ev, gv, setD, List.map, Option.some.injEq, exists_eq_left', load2 hb4]
    refine (lsign_ok lim _ b D G ⟨w, rfl, hv.sl, hok⟩ (by omega)).mono ?_
    rintro _ G1 ⟨rfl, hg1⟩
    simp only [o_cont, o_pure, o_nil, POp.ev, Opd.ev, gv, setD, List.set, Option.some.injEq, exists_eq_left']
    refine s_ret1 ?_
    simp +decide only [p_fin_ret, resV, resOne, gv, Option.some.injEq, exists_eq_left']
    exact ⟨by rw [hval], hx.trans hg1⟩
end Go.Proofs.YtldpdjpchcoigaaGreat

/- Families, the program: which arguments are valid; no condition beyond stated lengths. -/
namespace Go.Proofs.YtldpdjpchcoigaaGreat
open Go.Ab Ints
set_option linter.unusedSimpArgs false
set_option linter.unusedVariables false

theorem isPlaces_ok (lim : Nat) (k : Int) (H : AHeap) : ACalls Tryz.prog lim n_impl_isPlaces [.int .i64 k] H fun v H' => v = .bool (decide (0 ≤ k) && decide (k ≤ 24)) ∧ H' = H := by
  refine is_impl_isPlaces.go rfl ?_
  unfold c_impl_isPlaces
  refine s_reg ?_
  simp only [o_pure, o_nil, POp.ev, Opd.ev, env0, gu, setD, List.set, Option.some.injEq, exists_eq_left']
  refine s_reg ?_
  simp only [o_pure, o_callF, POp.ev, Opd.ev, gv, setD, List.map, Option.some.injEq, exists_eq_left']
  refine (Ints.inside_ok _ _ _ _ _).eq ?_
  simp only [o_cont, o_pure, o_nil, POp.ev, Opd.ev, gv, setD, List.set, Option.some.injEq, exists_eq_left']
  refine s_ret1 ?_
  simp +decide only [p_fin_ret, resV, resOne, gv, Option.some.injEq, exists_eq_left']
theorem isDyadic_ok (lim : Nat) (n k : Int) (H : AHeap) : ACalls Tryz.prog lim n_impl_isDyadic [.agg #[vi n, vi k]] H fun v H' => v = .bool (goodD n k) ∧ Ext H H' := by
  refine is_impl_isDyadic.go rfl ?_
  unfold c_impl_isDyadic
  refine s_reg ?_
  simp only [o_pure, o_eff, o_nil, POp.ev, Opd.ev, EOp.ev, env0, gu, gv, setD, List.set, Option.map_some, Option.some.injEq, exists_eq_left', boxH, cellsV]
  have hx := Ext.alloc H [vi n, vi k]
  have hb : (H.alloc [vi n, vi k]).blk H.next = some [vi n, vi k] := alloc_new _ _
  generalize H.alloc [vi n, vi k] = H1 at hx hb ⊢
  have e2 : ¬ ((2 : Int) = 0) := by decide
  refine s_reg ?_
  simp only [o_pure, o_callF, POp.ev, Opd.ev, gv, setD, List.map, Option.some.injEq, exists_eq_left', load1V, fadV, List.getElem?_cons_zero, List.getElem?_cons_succ, Nat.zero_add, cell_blk hb]
  refine (isPlaces_ok _ _ _).eq ?_
  unfold goodD
  generalize (decide ((0 : Int) ≤ k) && decide (k ≤ 24)) = A
  cases A
  · simp only [o_cont, o_pure, o_guard, gk_ft, gk_u, o_nil, POp.ev, Opd.ev, gv, setD, List.set, Option.some.injEq, exists_eq_left', pickV]
    refine s_ret1 ?_
    simp +decide only [p_fin_ret, resV, resOne, gv, Option.some.injEq, exists_eq_left']
    exact ⟨by simp, hx⟩
  · simp only [o_cont, o_pure, o_callF, o_guard, gk_tt, POp.ev, Opd.ev, gv, setD, List.map, Option.some.injEq, exists_eq_left', load1V, fadV, List.getElem?_cons_zero, Nat.zero_add, cell_blk hb]
    refine (Ints.inside_ok _ _ _ _ _).eq ?_
    generalize (decide (-1099511627776 ≤ n) && decide (n ≤ 1099511627776)) = B
    cases B
    · simp only [o_cont, o_pure, o_guard, gk_ft, gk_u, o_nil, POp.ev, Opd.ev, gv, setD, List.set, Option.some.injEq, exists_eq_left', pickV]
      refine s_ret1 ?_
      simp +decide only [p_fin_ret, resV, resOne, gv, Option.some.injEq, exists_eq_left']
      exact ⟨by simp, hx⟩
    · by_cases h0 : k = 0
      · have d0 : (k == 0) = true := by simpa using h0
        simp only [o_cont, o_pure, o_guard, gk_tt, gk_tf, o_nil, POp.ev, Opd.ev, gv, setD, List.set, Option.some.injEq, exists_eq_left', pickV, binV, load1V, fadV, ne_eq, not_true_eq_false, if_false, List.getElem?_cons_zero, List.getElem?_cons_succ, Nat.zero_add, cell_blk hb, d0]
        refine s_ret1 ?_
        simp +decide only [p_fin_ret, resV, resOne, gv, Option.some.injEq, exists_eq_left']
        exact ⟨by simp, hx⟩
      · have d0 : (k == 0) = false := by simpa using h0
        simp only [o_cont, o_pure, o_guard, gk_tt, gk_ff, o_nil, POp.ev, Opd.ev, gv, setD, List.set, Option.some.injEq, exists_eq_left', pickV, binV, load1V, fadV, ne_eq, not_true_eq_false, if_false, List.getElem?_cons_zero, List.getElem?_cons_succ, Nat.zero_add, cell_blk hb, d0, e2]
        refine s_ret1 ?_
        simp +decide only [p_fin_ret, resV, resOne, gv, Option.some.injEq, exists_eq_left']
        exact ⟨by simp, hx⟩
theorem isInterval_ok (lim : Nat) (t : Tm) (H : AHeap) (hl : lim ≤ H.next) : ACalls Tryz.prog lim n_impl_isInterval [tv t] H fun v H' => v = .bool (ivB t) ∧ Ext H H' := by
  refine is_impl_isInterval.go rfl ?_
  unfold c_impl_isInterval tv
  refine s_reg ?_
  simp only [o_pure, o_eff, o_nil, POp.ev, Opd.ev, EOp.ev, env0, gu, gv, setD, List.set, Option.map_some, Option.some.injEq, exists_eq_left', boxH, cellsV]
  have hx := Ext.alloc H [vi t.c, vi t.x, vi t.y, vi t.z]
  have hb := alloc_new H [vi t.c, vi t.x, vi t.y, vi t.z]
  have hbl : H.next < (H.alloc [vi t.c, vi t.x, vi t.y, vi t.z]).next := Nat.lt_succ_self _
  generalize H.alloc [vi t.c, vi t.x, vi t.y, vi t.z] = H1 at hx hb hbl ⊢
  refine s_reg ?_
  simp only [o_pure, o_callF, POp.ev, Opd.ev, gv, setD, List.map, Option.some.injEq, exists_eq_left', fadV, Nat.add_zero, (two4 hb).1]
  refine (isDyadic_ok _ _ _ _).mono ?_
  rintro _ H2 ⟨rfl, hx2⟩
  replace hb : H2.blk H.next = some [vi t.c, vi t.x, vi t.y, vi t.z] := by rw [hx2.blk _ hbl]; exact hb
  have hn2 := hx2.next
  have h02 := hx.trans hx2
  unfold ivB
  cases hA : goodD t.c t.x
  · simp only [o_cont, o_pure, o_guard, gk_ft, o_nil, POp.ev, Opd.ev, gv, setD, List.set, Option.some.injEq, exists_eq_left', pickV]
    refine s_ret1 ?_
    simp +decide only [p_fin_ret, resV, resOne, gv, Option.some.injEq, exists_eq_left']
    exact ⟨by simp, h02⟩
  simp only [o_cont, o_pure, o_callF, o_guard, gk_tt, POp.ev, Opd.ev, gv, setD, List.map, Option.some.injEq, exists_eq_left', fadV, Nat.zero_add, (two4 hb).2]
  refine (isDyadic_ok _ _ _ _).mono ?_
  rintro _ H3 ⟨rfl, hx3⟩
  replace hb : H3.blk H.next = some [vi t.c, vi t.x, vi t.y, vi t.z] := by rw [hx3.blk _ (by omega)]; exact hb
  have hn3 := hx3.next
  have h03 := h02.trans hx3
  have hn1 := hx.next
  cases hB : goodD t.y t.z
  · simp only [o_cont, o_pure, o_guard, gk_ft, o_nil, POp.ev, Opd.ev, gv, setD, List.set, Option.some.injEq, exists_eq_left', pickV]
    refine s_ret1 ?_
    simp +decide only [p_fin_ret, resV, resOne, gv, Option.some.injEq, exists_eq_left']
    exact ⟨by simp, h03⟩
  simp only [o_cont, o_pure, o_callF, o_guard, gk_tt, POp.ev, Opd.ev, gv, setD, List.map, Option.some.injEq, exists_eq_left', pickV, fadV, Nat.zero_add, Nat.add_zero, (two4 hb).1, (two4 hb).2]
  refine (compareD_ok _ _ _ _ _ _ (by omega) hA hB).mono ?_
  rintro _ H4 ⟨rfl, hx4⟩
  simp only [o_cont, o_pure, o_guard, gk_tt, o_nil, POp.ev, Opd.ev, gv, setD, List.set, Option.some.injEq, exists_eq_left', pickV, binV, ne_eq, not_true_eq_false, if_false]
  refine s_ret1 ?_
  simp +decide only [p_fin_ret, resV, resOne, gv, Option.some.injEq, exists_eq_left']
  exact ⟨by simp, h03.trans hx4⟩
def rangeB (n k : Int) : Bool := decide (cmpD (-8) 0 n k ≤ 0) && decide (cmpD n k 8 0 ≤ 0)
theorem inRange_ok (lim : Nat) (n k : Int) (H : AHeap) (hl : lim ≤ H.next) (hg : goodD n k = true) : ACalls Tryz.prog lim n_impl_inRange [.agg #[vi n, vi k]] H fun v H' => v = .bool (rangeB n k) ∧ Ext H H' := by
  refine is_impl_inRange.go rfl ?_
  unfold c_impl_inRange
  refine s_reg ?_
  simp only [o_pure, o_eff, o_nil, POp.ev, Opd.ev, EOp.ev, env0, gu, gv, setD, List.set, Option.map_some, Option.some.injEq, exists_eq_left', boxH, cellsV]
  have hx := Ext.alloc H [vi n, vi k]
  have hb := alloc_new H [vi n, vi k]
  have hl1 : (H.alloc [vi n, vi k]).next = H.next + 1 := rfl
  generalize H.alloc [vi n, vi k] = H1 at hx hb hl1 ⊢
  refine s_reg ?_
  simp only [o_pure, o_callN, POp.ev, Opd.ev, gv, setD, List.map, Option.some.injEq, exists_eq_left', load2 hb]
  refine (integer_ok _ (-8) H1 (Nat.le_refl _)).use ?_
  rintro _ H2 ⟨rfl, hx2⟩ _
  have hn2 := hx2.next
  simp only [o_cont, o_callF, Opd.ev, gv, setD, List.map]
  refine (compareD_ok lim _ _ _ _ H2 (by omega) (by decide) hg).mono ?_
  rintro _ H3 ⟨rfl, hx3⟩
  have hn3 := hx3.next
  have hx03 := (hx.trans hx2).trans hx3
  replace hb := ((hx2.trans hx3).blk _ (by omega)).trans hb
  unfold rangeB
  cases hA : decide (cmpD (-8) 0 n k ≤ 0)
  · simp only [o_cont, o_pure, o_guard, gk_ft, o_nil, POp.ev, Opd.ev, gv, setD, List.set, Option.some.injEq, exists_eq_left', pickV, binV, ne_eq, not_true_eq_false, if_false, hA]
    refine s_ret1 ?_
    simp +decide only [p_fin_ret, resV, resOne, gv, Option.some.injEq, exists_eq_left']
    exact ⟨by simp, hx03⟩
  · simp only [o_cont, o_pure, o_callN, o_guard, gk_tt, POp.ev, Opd.ev, gv, setD, List.map, Option.some.injEq, exists_eq_left', binV, ne_eq, not_true_eq_false, if_false, hA, load2 hb]
    refine (integer_ok _ 8 H3 (Nat.le_refl _)).use ?_
    rintro _ H4 ⟨rfl, hx4⟩ _
    have hn4 := hx4.next
    simp only [o_cont, o_callF, o_guard, gk_tt, Opd.ev, gv, setD, List.map]
    refine (compareD_ok lim _ _ _ _ H4 (by omega) hg (by decide)).mono ?_
    rintro _ H5 ⟨rfl, hx5⟩
    simp only [o_cont, o_pure, o_guard, gk_tt, o_nil, POp.ev, Opd.ev, gv, setD, List.set, Option.some.injEq, exists_eq_left', pickV, binV, ne_eq, not_true_eq_false, if_false]
    refine s_ret1 ?_
    simp +decide only [p_fin_ret, resV, resOne, gv, Option.some.injEq, exists_eq_left']
    exact ⟨by simp, (hx03.trans hx4).trans hx5⟩
theorem eqI2 (a b c d : Int) : eqIV true 2 (.agg #[vi a, vi b]) (.agg #[vi c, vi d]) = some (.bool (!(decide (a = c ∧ b = d)))) := by
  have : eqL [vi a, vi b] [vi c, vi d] = some (decide (a = c ∧ b = d)) := by
    have e : ∀ x y : Int, (x == y) = decide (x = y) := fun x y => by by_cases h : x = y <;> simp [h]
    simp [eqL, e]
  show (eqL [vi a, vi b] [vi c, vi d]).map (fun b => Value.bool (if true then !b else b)) = _
  rw [this]
  rfl
/-- the program's question, in its own order -/
def fitP (t : Tm) : Bool := ivB t && rangeB t.c t.x && rangeB t.y t.z && decide (t.x ≤ 5) && decide (t.z ≤ 5) && !(decide (t.c = t.y ∧ t.x = t.z))
theorem fitP_eq (t : Tm) : fitP t = fitB t := by
  unfold fitP fitB
  cases hA : ivB t
  · simp
  simp only [Bool.true_and]
  have hA' := hA
  simp only [ivB, Bool.and_eq_true, decide_eq_true_eq] at hA'
  obtain ⟨⟨g1, g2⟩, g3⟩ := hA'
  obtain ⟨K1, e1, a1, a2, a3⟩ := goodD_all g1
  obtain ⟨K2, e2, b1, b2, b3⟩ := goodD_all g2
  unfold rangeB cmpD at *
  rw [e1] at g3 ⊢
  rw [e2] at g3 ⊢
  simp only [Int.toNat_natCast, Int.toNat_zero, Int.pow_zero, Int.mul_one] at g3 ⊢
  have ltz : ∀ a : Int, decide (sgn3 a < 0) = decide (a < 0) := fun a => by rcases sgn3_cases a with h | h | h <;> rw [h.2] <;> simp <;> omega
  have lez : ∀ a : Int, decide (sgn3 a ≤ 0) = decide (a ≤ 0) := fun a => by rcases sgn3_cases a with h | h | h <;> rw [h.2] <;> simp <;> omega
  have g3' : t.c * 2 ^ K2 - t.y * 2 ^ K1 ≤ 0 := by have := lez (t.c * 2 ^ K2 - t.y * 2 ^ K1); simpa [g3] using this.symm
  simp only [ltz, lez]
  have p1 := pow_pos2 K1
  have p2 := pow_pos2 K2
  -- equal numbers have equal forms
  have uniq : t.c * 2 ^ K2 - t.y * 2 ^ K1 = 0 → t.c = t.y ∧ (K1 : Int) = K2 := by
    intro h
    have h1 : dnorm (t.c * 2 ^ K2) (K1 + K2) = (t.c, K1) := by rw [dnorm_pow]; exact dnorm_self (a3.imp id odd_of)
    have h2 : dnorm (t.y * 2 ^ K1) (K2 + K1) = (t.y, K2) := by rw [dnorm_pow]; exact dnorm_self (b3.imp id odd_of)
    rw [Nat.add_comm, ← show t.c * 2 ^ K2 = t.y * 2 ^ K1 by omega, h1] at h2
    have h3 := Prod.mk.inj h2
    exact ⟨h3.1, by rw [h3.2]⟩
  have eqf : (!(decide (t.c = t.y ∧ (K1 : Int) = K2))) = decide (t.c * 2 ^ K2 - t.y * 2 ^ K1 < 0) := by
    by_cases h : t.c * 2 ^ K2 - t.y * 2 ^ K1 = 0
    · rw [decide_eq_true (uniq h), decide_eq_false (by omega)]; rfl
    · rw [decide_eq_true (show t.c * 2 ^ K2 - t.y * 2 ^ K1 < 0 by omega), decide_eq_false]
      · rfl
      · rintro ⟨h1, h2⟩
        have : K1 = K2 := by omega
        rw [h1, this] at h
        exact h (Int.sub_self _)
  rw [eqf]
  have r1 : decide (t.c * 2 ^ K2 - t.y * 2 ^ K1 < 0) = true → decide (t.y - 8 * 2 ^ K2 ≤ 0) = true → decide (t.c - 8 * 2 ^ K1 ≤ 0) = true := by
    intro h1 h2
    have h1 := of_decide_eq_true h1
    have h2 := of_decide_eq_true h2
    refine decide_eq_true ?_
    have q : t.y * 2 ^ K1 ≤ 8 * 2 ^ K2 * 2 ^ K1 := Int.mul_le_mul_of_nonneg_right (by omega) (by omega)
    have q2 : t.c * 2 ^ K2 < 8 * 2 ^ K1 * 2 ^ K2 := by
      have : 8 * (2 : Int) ^ K2 * 2 ^ K1 = 8 * 2 ^ K1 * 2 ^ K2 := by rw [Int.mul_assoc, Int.mul_comm (2 ^ K2), ← Int.mul_assoc]
      omega
    have := Int.lt_of_mul_lt_mul_right q2 (by omega)
    omega
  have r2 : decide (t.c * 2 ^ K2 - t.y * 2 ^ K1 < 0) = true → decide (-8 * 2 ^ K1 - t.c ≤ 0) = true → decide (-8 * 2 ^ K2 - t.y ≤ 0) = true := by
    intro h1 h2
    have h1 := of_decide_eq_true h1
    have h2 := of_decide_eq_true h2
    refine decide_eq_true ?_
    have q : -8 * 2 ^ K1 * 2 ^ K2 ≤ t.c * 2 ^ K2 := Int.mul_le_mul_of_nonneg_right (by omega) (by omega)
    have q2 : -8 * 2 ^ K2 * 2 ^ K1 < t.y * 2 ^ K1 := by
      have : -8 * (2 : Int) ^ K1 * 2 ^ K2 = -8 * 2 ^ K2 * 2 ^ K1 := by rw [Int.mul_assoc, Int.mul_comm (2 ^ K1), ← Int.mul_assoc]
      omega
    have := Int.lt_of_mul_lt_mul_right q2 (by omega)
    omega
  generalize decide (t.c * 2 ^ K2 - t.y * 2 ^ K1 < 0) = A at *
  generalize decide (-8 * 2 ^ K1 - t.c ≤ 0) = B at *
  generalize decide (t.c - 8 * 2 ^ K1 ≤ 0) = C at *
  generalize decide (-8 * 2 ^ K2 - t.y ≤ 0) = D at *
  generalize decide (t.y - 8 * 2 ^ K2 ≤ 0) = E at *
  generalize decide ((K1 : Int) ≤ 5) = F at *
  generalize decide ((K2 : Int) ≤ 5) = G at *
  clear uniq eqf
  revert r1 r2
  revert A B C D E F G
  decide
theorem isFit_ok (lim : Nat) (t : Tm) (H : AHeap) (hl : lim ≤ H.next) : ACalls Tryz.prog lim n_impl_isFit [tv t] H fun v H' => v = .bool (fitB t) ∧ Ext H H' := by
  rw [← fitP_eq]
  refine is_impl_isFit.go rfl ?_
  unfold c_impl_isFit tv
  refine s_reg ?_
  simp only [o_pure, o_eff, o_nil, POp.ev, Opd.ev, EOp.ev, env0, gu, gv, setD, List.set, Option.map_some, Option.some.injEq, exists_eq_left', boxH, cellsV]
  have hx := Ext.alloc H [vi t.c, vi t.x, vi t.y, vi t.z]
  have hb := alloc_new H [vi t.c, vi t.x, vi t.y, vi t.z]
  have hbl : H.next < (H.alloc [vi t.c, vi t.x, vi t.y, vi t.z]).next := Nat.lt_succ_self _
  generalize H.alloc [vi t.c, vi t.x, vi t.y, vi t.z] = H1 at hx hb hbl ⊢
  have hn1 := hx.next
  refine s_reg ?_
  simp only [o_pure, o_callF, POp.ev, Opd.ev, gv, setD, List.map, Option.some.injEq, exists_eq_left', load4 hb]
  refine (isInterval_ok lim t H1 (by omega)).mono ?_
  rintro _ H2 ⟨rfl, hx2⟩
  replace hb := (hx2.blk _ hbl).trans hb
  have hn2 := hx2.next
  have h02 := hx.trans hx2
  unfold fitP
  cases hA : ivB t
  · simp only [o_cont, o_pure, o_guard, gk_ft, o_nil, POp.ev, Opd.ev, gv, setD, List.set, Option.some.injEq, exists_eq_left', pickV]
    refine s_ret1 ?_
    simp +decide only [p_fin_ret, resV, resOne, gv, Option.some.injEq, exists_eq_left']
    exact ⟨by simp, h02⟩
  have hA' := hA
  simp only [ivB, Bool.and_eq_true, decide_eq_true_eq] at hA'
  obtain ⟨⟨g1, g2⟩, g3⟩ := hA'
  simp only [o_cont, o_pure, o_callF, o_guard, gk_tt, POp.ev, Opd.ev, gv, setD, List.map, Option.some.injEq, exists_eq_left', fadV, Nat.add_zero, (two4 hb).1]
  refine (inRange_ok lim _ _ H2 (by omega) g1).mono ?_
  rintro _ H3 ⟨rfl, hx3⟩
  replace hb := (hx3.blk _ (by omega)).trans hb
  have hn3 := hx3.next
  have h03 := h02.trans hx3
  cases hB : rangeB t.c t.x
  · simp only [o_cont, o_pure, o_guard, gk_ft, o_nil, POp.ev, Opd.ev, gv, setD, List.set, Option.some.injEq, exists_eq_left', pickV]
    refine s_ret1 ?_
    simp +decide only [p_fin_ret, resV, resOne, gv, Option.some.injEq, exists_eq_left']
    exact ⟨by simp, h03⟩
  simp only [o_cont, o_pure, o_callF, o_guard, gk_tt, POp.ev, Opd.ev, gv, setD, List.map, Option.some.injEq, exists_eq_left', pickV, fadV, Nat.zero_add, (two4 hb).2]
  refine (inRange_ok lim _ _ H3 (by omega) g2).mono ?_
  rintro _ H4 ⟨rfl, hx4⟩
  replace hb := (hx4.blk _ (by omega)).trans hb
  have hn4 := hx4.next
  have h04 := h03.trans hx4
  cases hC : rangeB t.y t.z
  · simp only [o_cont, o_pure, o_guard, gk_ft, o_nil, POp.ev, Opd.ev, gv, setD, List.set, Option.some.injEq, exists_eq_left', pickV]
    refine s_ret1 ?_
    simp +decide only [p_fin_ret, resV, resOne, gv, Option.some.injEq, exists_eq_left']
    exact ⟨by simp, h04⟩
  cases hD : decide (t.x ≤ 5)
  · simp only [o_cont, o_pure, o_guard, gk_tt, gk_ft, o_nil, POp.ev, Opd.ev, gv, setD, List.set, Option.some.injEq, exists_eq_left', pickV, binV, load1V, fadV, ne_eq, not_true_eq_false, if_false, List.getElem?_cons_zero, List.getElem?_cons_succ, Nat.zero_add, Nat.add_zero, cell_blk hb, hD]
    refine s_ret1 ?_
    simp +decide only [p_fin_ret, resV, resOne, gv, Option.some.injEq, exists_eq_left']
    exact ⟨by simp, h04⟩
  cases hE : decide (t.z ≤ 5)
  · simp only [o_cont, o_pure, o_guard, gk_tt, gk_ft, o_nil, POp.ev, Opd.ev, gv, setD, List.set, Option.some.injEq, exists_eq_left', pickV, binV, load1V, fadV, ne_eq, not_true_eq_false, if_false, List.getElem?_cons_zero, List.getElem?_cons_succ, Nat.zero_add, Nat.add_zero, Nat.reduceAdd, cell_blk hb, hD, hE]
    refine s_ret1 ?_
    simp +decide only [p_fin_ret, resV, resOne, gv, Option.some.injEq, exists_eq_left']
    exact ⟨by simp, h04⟩
  simp only [o_cont, o_pure, o_guard, gk_tt, o_nil, POp.ev, Opd.ev, gv, setD, List.set, Option.some.injEq, exists_eq_left', pickV, binV, load1V, fadV, ne_eq, not_true_eq_false, if_false, List.getElem?_cons_zero, List.getElem?_cons_succ, Nat.zero_add, Nat.add_zero, Nat.reduceAdd, cell_blk hb, hD, hE, (two4 hb).1, (two4 hb).2, eqI2]
  refine s_ret1 ?_
  simp +decide only [p_fin_ret, resV, resOne, gv, Option.some.injEq, exists_eq_left']
  exact ⟨by simp, h04⟩
/-! ### small polynomials -/
theorem isSingle_ok (lim : Nat) (s : Value) (p : List Int) (H : AHeap) (hs : SlI H s p) (hn : p.length ≤ 1000000000) : ACalls Tryz.prog lim n_impl_isSingle [s] H fun v H' => v = .bool (single p) ∧ H' = H := by
  refine is_impl_isSingle.go rfl ?_
  unfold c_impl_isSingle
  refine s_reg ?_
  simp only [o_pure, o_nil, POp.ev, Opd.ev, env0, gu, setD, List.set, Option.some.injEq, exists_eq_left']
  refine s_assoc (s_reg ?_)
  simp only [o_pure, o_nil, POp.ev, Opd.ev, gv, setD, List.set, Option.some.injEq, exists_eq_left', hs.lenV]
  refine s_block ?_
  refine s_loop1 (fun k e' H' => H' = H ∧ ∃ (i : Nat) (x : Value), i + k = p.length ∧ (p.all fun x => decide (-1000000 ≤ x) && decide (x ≤ 1000000)) = ((p.drop i).all fun x => decide (-1000000 ≤ x) && decide (x ≤ 1000000)) ∧ e' = [s, .bool false, x, s, .int .i64 p.length, .int .i64 i]) p.length ⟨rfl, 0, _, by omega, by simp, rfl⟩ ?_
  rintro k e' H' ⟨rfl, i, x, hik, hall, rfl⟩
  refine s_test ?_
  simp only [o_pure, o_nil, POp.ev, Opd.ev, gv, setD, Option.some.injEq, exists_eq_left', binV, ne_eq, not_true_eq_false, if_false]
  refine Test.split (fun hlt => ?_) (fun hlt => ?_)
  · have hlt' : i < p.length := by simpa using hlt
    rw [List.drop_eq_getElem_cons hlt'] at hall
    refine s_skip1 ?_
    simp +decide only [p_seq_normal]
    refine s_block ?_
    refine s_reg ?_
    obtain ⟨bb, o, h1, h2, h3⟩ := hs.get hlt'
    simp only [o_pure, o_nil, POp.ev, Opd.ev, gv, setD, List.set, Option.some.injEq, exists_eq_left', load1V, h1, h3]
    refine s_test1 ?_
    simp only [o_pure, o_callF, POp.ev, Opd.ev, gv, setD, List.map, Option.some.injEq, exists_eq_left']
    refine (Ints.inside_ok _ _ _ _ _).mono ?_
    rintro v H1 ⟨rfl, rfl⟩
    simp only [o_cont, o_pure, o_nil, POp.ev, Opd.ev, gv, setD, Option.some.injEq, exists_eq_left', unV]
    refine Test.split (fun hv => ?_) (fun hv => ?_)
    · refine s_reg ?_
      simp only [o_pure, o_nil, POp.ev, Opd.ev, setD, List.set, Option.some.injEq, exists_eq_left']
      refine s_ret1 ?_
      simp +decide only [p_seq_ret, p_block_ret, p_fin_ret, resV, resOne, gv, Option.some.injEq, exists_eq_left']
      simp only [Bool.not_eq_true'] at hv
      unfold single
      rw [hall, List.all_cons, hv, Bool.false_and]
      simp
    · refine s_skip1 ?_
      simp +decide only [p_seq_normal, p_block_normal]
      refine s_reg1 ?_
      simp only [o_pure, o_nil, POp.ev, Opd.ev, gv, setD, List.set, Option.some.injEq, exists_eq_left', binV, ne_eq, not_true_eq_false, if_false, add1 (i := i) (by omega)]
      simp +decide only [p_seq_normal]
      simp only [Bool.not_eq_false'] at hv
      rw [List.all_cons, hv, Bool.true_and] at hall
      exact Round.mk (k - 1) (by omega) ⟨rfl, i + 1, _, by omega, hall, rfl⟩
  · refine s_exit1 ?_
    simp +decide only [p_seq_normal, p_seq_exit, p_block_exit, reduceIte]
    have hge : p.length ≤ i := by simp at hlt; omega
    rw [List.drop_of_length_le hge, List.all_nil] at hall
    unfold single
    rw [hall]
    by_cases h0 : p = []
    · subst h0
      refine s_reg ?_
      simp only [o_pure, o_guard, gk_tf, gk_u, o_nil, POp.ev, Opd.ev, gv, setD, List.set, Option.some.injEq, exists_eq_left', pickV, binV, ne_eq, not_true_eq_false, if_false, beq_self_eq_true, hs.lenV, List.length_nil, Int.natCast_zero]
      refine s_ret1 ?_
      simp +decide only [p_fin_ret, resV, resOne, gv, Option.some.injEq, exists_eq_left']
      exact ⟨by simp, trivial⟩
    · have hpos : 0 < p.length := List.length_pos_iff.2 h0
      have d0 : ((p.length : Int) == 0) = false := by simp [h0]
      obtain ⟨b, o, g1, g2⟩ := SlI.last hs h0
      have w1 : IntKind.i64.wrap ((p.length : Int) - 1) = (p.length : Int) - 1 := wr_id (by omega) (by omega)
      refine s_reg ?_
      by_cases h9 : p.length ≤ 9
      · have d9 : decide ((p.length : Int) ≤ 9) = true := by simp; omega
        simp only [o_pure, o_guard, gk_tt, gk_ff, o_nil, POp.ev, Opd.ev, gv, setD, List.set, Option.some.injEq, exists_eq_left', pickV, binV, load1V, ne_eq, not_true_eq_false, if_false, hs.lenV, d0, d9, w1, g1, g2]
        refine s_ret1 ?_
        simp +decide only [p_fin_ret, resV, resOne, gv, Option.some.injEq, exists_eq_left']
        exact ⟨by simp [h0, h9], trivial⟩
      · have d9 : decide ((p.length : Int) ≤ 9) = false := by simp; omega
        simp only [o_pure, o_guard, gk_ff, gk_ft, o_nil, POp.ev, Opd.ev, gv, setD, List.set, Option.some.injEq, exists_eq_left', pickV, binV, ne_eq, not_true_eq_false, if_false, hs.lenV, d0, d9]
        refine s_ret1 ?_
        simp +decide only [p_fin_ret, resV, resOne, gv, Option.some.injEq, exists_eq_left']
        exact ⟨by simp [h9], trivial⟩
theorem big_ok (lim : Nat) (c : Int) (H : AHeap) : ACalls Tryz.prog lim n_impl_isSmall_1 [.int .i64 c] H fun v H' => v = .bool (!(decide (-1000 ≤ c) && decide (c ≤ 1000))) ∧ H' = H := by
  refine is_impl_isSmall_1.go rfl ?_
  unfold c_impl_isSmall_1
  refine s_reg ?_
  simp only [o_pure, o_nil, POp.ev, Opd.ev, env0, gu, setD, List.set, Option.some.injEq, exists_eq_left']
  refine s_reg ?_
  simp only [o_pure, o_callF, POp.ev, Opd.ev, gv, setD, List.map, Option.some.injEq, exists_eq_left']
  refine (Ints.inside_ok _ _ _ _ _).eq ?_
  simp only [o_cont, o_pure, o_nil, POp.ev, Opd.ev, gv, setD, List.set, Option.some.injEq, exists_eq_left', unV]
  refine s_ret1 ?_
  simp +decide only [p_fin_ret, resV, resOne, gv, Option.some.injEq, exists_eq_left']
theorem indexF_ok (g : FuncId) (P : Int → Bool) (hg : ∀ (lim : Nat) (x : Int) (H : AHeap), ACalls Tryz.prog lim g [.int .i64 x] H fun v H' => v = .bool (P x) ∧ H' = H) (lim : Nat) (s : Value) (l : List Int) (H : AHeap) (hs : SlI H s l) (hn : l.length ≤ 1000000000) :
    ACalls Tryz.prog lim n_slices_IndexFunc_S_int_int [s, .func (.func g) #[] #[]] H fun v H' => (∃ r : Int, v = .int .i64 r ∧ decide (r ≥ 0) = l.any P) ∧ H' = H := by
  refine is_slices_IndexFunc_S_int_int.go rfl ?_
  unfold c_slices_IndexFunc_S_int_int
  refine s_reg ?_
  simp only [o_pure, o_nil, POp.ev, Opd.ev, env0, gu, setD, List.set, Option.some.injEq, exists_eq_left']
  refine s_assoc (s_reg ?_)
  simp only [o_pure, o_nil, POp.ev, Opd.ev, gv, setD, List.set, Option.some.injEq, exists_eq_left', Sl.lenV hs]
  refine s_block ?_
  refine s_loop1 (fun k e' H' => H' = H ∧ ∃ (i : Nat) (x : Value), i + k = l.length ∧ l.any P = (l.drop i).any P ∧ e' = [s, .func (.func g) #[] #[], .int .i64 0, x, .int .i64 l.length, .int .i64 i]) l.length ⟨rfl, 0, _, by omega, by simp, rfl⟩ ?_
  rintro k e' H ⟨rfl, i, x, hik, hall, rfl⟩
  refine s_test ?_
  simp only [o_pure, o_nil, POp.ev, Opd.ev, gv, setD, Option.some.injEq, exists_eq_left', binV, ne_eq, not_true_eq_false, if_false]
  refine Test.split (fun hlt => ?_) (fun hlt => ?_)
  · have hlt' : i < l.length := by simpa using hlt
    rw [List.drop_eq_getElem_cons hlt', List.any_cons] at hall
    refine s_skip1 ?_
    simp +decide only [p_seq_normal]
    refine s_block ?_
    refine s_reg ?_
    simp only [o_pure, o_nil, POp.ev, Opd.ev, gv, setD, List.set, Option.some.injEq, exists_eq_left']
    refine s_test1 ?_
    obtain ⟨bb, o, h1, h2, h3⟩ := hs.get hlt'
    simp only [o_callT, callV_fn, o_pure, POp.ev, Opd.ev, gv, setD, List.map, Option.some.injEq, exists_eq_left', load1V, h1, h3]
    refine (hg _ _ _).eq ?_
    simp only [o_cont, o_nil, gv, setD]
    refine Test.split (fun hv => ?_) (fun hv => ?_)
    · refine s_reg ?_
      simp only [o_pure, o_nil, POp.ev, Opd.ev, gv, setD, List.set, Option.some.injEq, exists_eq_left']
      refine s_ret1 ?_
      simp +decide only [p_seq_ret, p_block_ret, p_fin_ret, resV, resOne, gv, Option.some.injEq, exists_eq_left']
      rw [hv, Bool.true_or] at hall
      exact ⟨⟨_, rfl, by rw [hall]; simp⟩, trivial⟩
    · refine s_skip1 ?_
      simp +decide only [p_seq_normal, p_block_normal]
      refine s_reg1 ?_
      simp only [o_pure, o_nil, POp.ev, Opd.ev, gv, setD, List.set, Option.some.injEq, exists_eq_left', binV, ne_eq, not_true_eq_false, if_false, add1 (i := i) (by omega)]
      simp +decide only [p_seq_normal]
      rw [hv, Bool.false_or] at hall
      exact Round.mk (k - 1) (by omega) ⟨rfl, i + 1, _, by omega, hall, rfl⟩
  · refine s_exit1 ?_
    simp +decide only [p_seq_normal, p_seq_exit, p_block_exit, reduceIte]
    have hge : l.length ≤ i := by simp at hlt; omega
    rw [List.drop_of_length_le hge] at hall
    refine s_reg ?_
    simp only [o_pure, o_nil, POp.ev, Opd.ev, setD, List.set, Option.some.injEq, exists_eq_left']
    refine s_ret1 ?_
    simp +decide only [p_fin_ret, resV, resOne, gv, Option.some.injEq, exists_eq_left']
    exact ⟨⟨_, rfl, by rw [hall]; simp⟩, trivial⟩
theorem containsF_ok (g : FuncId) (P : Int → Bool) (hg : ∀ (lim : Nat) (x : Int) (H : AHeap), ACalls Tryz.prog lim g [.int .i64 x] H fun v H' => v = .bool (P x) ∧ H' = H) (lim : Nat) (s : Value) (l : List Int) (H : AHeap) (hs : SlI H s l) (hn : l.length ≤ 1000000000) :
    ACalls Tryz.prog lim n_slices_ContainsFunc_S_int_int [s, .func (.func g) #[] #[]] H fun v H' => v = .bool (l.any P) ∧ H' = H := by
  refine is_slices_ContainsFunc_S_int_int.go rfl ?_
  unfold c_slices_ContainsFunc_S_int_int
  refine s_reg ?_
  simp only [o_pure, o_nil, POp.ev, Opd.ev, env0, gu, setD, List.set, Option.some.injEq, exists_eq_left']
  refine s_reg ?_
  simp only [o_pure, o_callF, POp.ev, Opd.ev, gv, setD, List.map, Option.some.injEq, exists_eq_left']
  refine (indexF_ok g P hg _ _ _ _ hs hn).mono ?_
  rintro v H1 ⟨⟨r, rfl, hr⟩, rfl⟩
  simp only [o_cont, o_pure, o_nil, POp.ev, Opd.ev, gv, setD, List.set, Option.some.injEq, exists_eq_left', binV, ne_eq, not_true_eq_false, if_false]
  refine s_ret1 ?_
  simp +decide only [p_fin_ret, resV, resOne, gv, Option.some.injEq, exists_eq_left']
  simp only [hr, and_self]
theorem not_any_not (l : List Int) (P : Int → Bool) : (!l.any fun x => !P x) = l.all P := by
  induction l with
  | nil => rfl
  | cons x l ih => rw [List.any_cons, List.all_cons, ← ih, Bool.not_or, Bool.not_not]
theorem isSmall_ok (lim : Nat) (s : Value) (p : List Int) (H : AHeap) (hs : SlI H s p) (hn : p.length ≤ 1000000000) : ACalls Tryz.prog lim n_impl_isSmall [s] H fun v H' => v = .bool (smallB p) ∧ H' = H := by
  refine is_impl_isSmall.go rfl ?_
  unfold c_impl_isSmall
  refine s_reg ?_
  simp only [o_pure, o_nil, POp.ev, Opd.ev, env0, gu, setD, List.set, Option.some.injEq, exists_eq_left']
  refine s_reg ?_
  simp only [o_pure, o_callF, POp.ev, Opd.ev, gv, setD, List.map, Option.some.injEq, exists_eq_left']
  refine (isSingle_ok _ _ _ _ hs hn).eq ?_
  unfold smallB
  generalize single p = A
  cases A
  · simp only [o_cont, o_pure, o_guard, gk_ft, o_nil, POp.ev, Opd.ev, gv, setD, List.set, Option.some.injEq, exists_eq_left', pickV]
    refine s_ret1 ?_
    simp +decide only [p_fin_ret, resV, resOne, gv, Option.some.injEq, exists_eq_left']
    exact ⟨by simp, trivial⟩
  simp only [o_cont, o_pure, o_callF, o_guard, gk_tt, POp.ev, Opd.ev, gv, setD, List.map, Option.some.injEq, exists_eq_left', hs.lenV]
  refine (Ints.inside_ok _ _ _ _ _).eq ?_
  generalize (decide (1 ≤ (p.length : Int)) && decide ((p.length : Int) ≤ 6)) = B
  cases B
  · simp only [o_cont, o_pure, o_guard, gk_ft, o_nil, POp.ev, Opd.ev, gv, setD, List.set, Option.some.injEq, exists_eq_left', pickV]
    refine s_ret1 ?_
    simp +decide only [p_fin_ret, resV, resOne, gv, Option.some.injEq, exists_eq_left']
    exact ⟨by simp, trivial⟩
  simp only [o_cont, o_pure, o_callF, o_guard, gk_tt, POp.ev, Opd.ev, gv, setD, List.map, Option.some.injEq, exists_eq_left', pickV]
  refine (containsF_ok n_impl_isSmall_1 _ big_ok _ _ _ _ hs hn).eq ?_
  simp only [o_cont, o_pure, o_guard, gk_tt, o_nil, POp.ev, Opd.ev, gv, setD, List.set, Option.some.injEq, exists_eq_left', pickV, unV, not_any_not]
  refine s_ret1 ?_
  simp +decide only [p_fin_ret, resV, resOne, gv, Option.some.injEq, exists_eq_left']
  exact ⟨by simp, trivial⟩
theorem isFamily_ok (lim : Nat) (s u : Value) (p q : List Int) (fine : Int) (H : AHeap) (hs : SlI H s p) (hu : SlI H u q) (hn : p.length ≤ 1000000000) (hn2 : q.length ≤ 1000000000) :
    ACalls Tryz.prog lim n_impl_isFamily [s, u, .int .i64 fine] H fun v H' => v = .bool (askF p q fine) ∧ H' = H := by
  refine is_impl_isFamily.go rfl ?_
  unfold c_impl_isFamily
  refine s_reg ?_
  simp only [o_pure, o_nil, POp.ev, Opd.ev, env0, gu, setD, List.set, Option.some.injEq, exists_eq_left']
  refine s_reg ?_
  simp only [o_pure, o_callF, POp.ev, Opd.ev, gv, setD, List.map, Option.some.injEq, exists_eq_left']
  refine (isSmall_ok _ _ _ _ hs hn).eq ?_
  unfold askF
  generalize smallB p = A
  cases A
  · simp only [o_cont, o_pure, o_guard, gk_ft, o_nil, POp.ev, Opd.ev, gv, setD, List.set, Option.some.injEq, exists_eq_left', pickV]
    refine s_ret1 ?_
    simp +decide only [p_fin_ret, resV, resOne, gv, Option.some.injEq, exists_eq_left']
    exact ⟨by simp, trivial⟩
  simp only [o_cont, o_pure, o_callF, o_guard, gk_tt, POp.ev, Opd.ev, gv, setD, List.map, Option.some.injEq, exists_eq_left']
  refine (isSmall_ok _ _ _ _ hu hn2).eq ?_
  generalize smallB q = B
  cases B
  · simp only [o_cont, o_pure, o_guard, gk_ft, o_nil, POp.ev, Opd.ev, gv, setD, List.set, Option.some.injEq, exists_eq_left', pickV]
    refine s_ret1 ?_
    simp +decide only [p_fin_ret, resV, resOne, gv, Option.some.injEq, exists_eq_left']
    exact ⟨by simp, trivial⟩
  simp only [o_cont, o_pure, o_callF, o_guard, gk_tt, POp.ev, Opd.ev, gv, setD, List.map, Option.some.injEq, exists_eq_left', pickV]
  refine (Ints.inside_ok _ _ _ _ _).eq ?_
  simp only [o_cont, o_pure, o_nil, POp.ev, Opd.ev, gv, setD, List.set, Option.some.injEq, exists_eq_left', pickV]
  refine s_ret1 ?_
  simp +decide only [p_fin_ret, resV, resOne, gv, Option.some.injEq, exists_eq_left']
  exact ⟨by simp, trivial⟩
end Go.Proofs.YtldpdjpchcoigaaGreat

/- Coefficient lists, the program: without zeros at the end, products, sums, derivatives; no condition beyond stated ranges. -/
namespace Go.Proofs.YtldpdjpchcoigaaGreat
open Go.Ab Ints
set_option linter.unusedSimpArgs false
set_option linter.unusedVariables false

theorem stripped_ok (lim : Nat) (s : Value) (p : List Int) (H : AHeap) (hl : lim ≤ H.next) (hs : SlI H s p) (hn : p.length ≤ 10000) :
    ACalls Tryz.prog lim n_impl_stripped [s] H fun v H' => (∃ b, H.next ≤ b ∧ VecI H' b v (strip p)) ∧ Ext H H' := by
  refine is_impl_stripped.go rfl ?_
  unfold c_impl_stripped
  refine s_reg ?_
  simp only [o_pure, o_nil, POp.ev, Opd.ev, env0, gu, setD, List.set, Option.some.injEq, exists_eq_left']
  refine s_block ?_
  refine s_loop1 (fun m e' H' => H' = H ∧ ∃ v, m ≤ p.length ∧ SlI H v (p.take m) ∧ strip (p.take m) = strip p ∧ e' = [v, .slice none 0 0]) p.length ⟨rfl, s, Nat.le_refl _, by rw [List.take_length]; exact hs, by rw [List.take_length], rfl⟩ ?_
  rintro m e' H' ⟨rfl, v, hm, hv, hst, rfl⟩
  have hlen : (p.take m).length = m := by simp; omega
  have fin : ∀ (hstop : strip (p.take m) = p.take m), awp Tryz.prog lim (.seq (.reg [⟨.pure (.id (.v 0)), none, none⟩, ⟨.call false (.f n_slices_Clone_S_int_int) [.t 0], none, none⟩, ⟨.pure (.id (.t 0)), some 1, none⟩]) .ret) (FinP [.v 1] fun v H'' => (∃ b, H'.next ≤ b ∧ VecI H'' b v (strip p)) ∧ Ext H' H'') [v, .slice none 0 0] H' := by
    intro hstop
    refine s_reg ?_
    simp only [o_pure, o_callF, POp.ev, Opd.ev, gv, setD, List.map, Option.some.injEq, exists_eq_left']
    refine (Ints.clone_ok lim v _ H' hl hv (by omega)).mono ?_
    rintro u H2 ⟨b, hb, _, hvb, hx⟩
    simp only [o_cont, o_pure, o_nil, POp.ev, Opd.ev, gv, setD, List.set, Option.some.injEq, exists_eq_left']
    refine s_ret1 ?_
    simp +decide only [p_fin_ret, resV, resOne, gv, Option.some.injEq, exists_eq_left']
    exact ⟨⟨b, hb, by rw [← hst, hstop]; exact hvb⟩, hx⟩
  cases m with
  | zero =>
    have d : decide ((((p.take 0).length : Nat) : Int) > 0) = false := by rw [hlen]; rfl
    refine s_test ?_
    simp only [o_pure, o_guard, gk_ft, o_nil, POp.ev, Opd.ev, gv, setD, Option.some.injEq, exists_eq_left', pickV, binV, ne_eq, not_true_eq_false, if_false, Sl.lenV hv, d]
    refine Test.false_ (s_exit1 ?_)
    simp +decide only [p_seq_normal, p_seq_exit, p_block_exit, reduceIte]
    exact fin (by rw [List.take_zero]; rfl)
  | succ m =>
    have hne : p.take (m + 1) ≠ [] := by intro e; rw [e] at hlen; cases hlen
    have d : decide (((m + 1 : Nat) : Int) > 0) = true := decide_eq_true (by omega)
    obtain ⟨b, o, g1, g2⟩ := SlI.last hv hne
    have hlast : (p.take (m + 1)).getLastD 0 = p[m] := by rw [List.take_succ_eq_append_getElem (by omega), List.getLastD_concat]
    rw [hlast] at g2
    rw [hlen] at g1
    have w1 : IntKind.i64.wrap (((m + 1 : Nat) : Int) - 1) = ((m + 1 : Nat) : Int) - 1 := wr_id (by omega) (by omega)
    have em : ((m + 1 : Nat) : Int) - 1 = (m : Int) := by omega
    have wm : IntKind.i64.wrap (m : Int) = (m : Int) := wr_nat (by omega)
    refine s_test ?_
    simp only [o_pure, o_guard, gk_tt, o_nil, POp.ev, Opd.ev, gv, setD, Option.some.injEq, exists_eq_left', pickV, binV, load1V, ne_eq, not_true_eq_false, if_false, Sl.lenV hv, d, hlen, w1, g1, g2]
    refine Test.split (fun hh => ?_) (fun hh => ?_)
    · have h0 : p[m] = 0 := by simpa using hh
      have hdec : p.take (m + 1) = p.take m ++ [0] := by rw [List.take_succ_eq_append_getElem (by omega), h0]
      obtain ⟨v', g3, g4⟩ := SlI.slc hv (lo := none) (hi := some (.int .i64 ((m : Nat) : Int))) (i := 0) (j := m) (by omega) (by omega) (.inl ⟨rfl, rfl⟩) (.inr ⟨.i64, rfl⟩)
      have e3 : ((p.take (m + 1)).drop 0).take (m - 0) = p.take m := by rw [List.drop_zero, Nat.sub_zero, List.take_take, Nat.min_eq_left (by omega)]
      rw [e3] at g4
      refine s_skip1 ?_
      simp +decide only [p_seq_normal]
      refine s_block1 ?_
      refine s_reg1 ?_
      simp only [o_pure, o_nil, POp.ev, Opd.ev, gv, setD, List.set, Option.map_none, Option.map_some, Option.some.injEq, exists_eq_left', binV, ne_eq, not_true_eq_false, if_false, Sl.lenV hv, hlen, em, wm, g3]
      simp +decide only [p_seq_normal, p_block_normal]
      exact Round.mk m (by omega) ⟨rfl, v', by omega, g4, by rw [← hst, hdec, strip_snoc0], rfl⟩
    · have h0 : p[m] ≠ 0 := by simpa using hh
      refine s_exit1 ?_
      simp +decide only [p_seq_normal, p_seq_exit, p_block_exit, reduceIte]
      refine fin ?_
      rw [List.take_succ_eq_append_getElem (by omega)]
      exact strip_snoc h0 _
def mulS (p q : List Int) : List Int := strip ((List.range (p.length + q.length)).map (conv p q))
theorem mulS_get (p q : List Int) (m : Nat) : (mulS p q).getD m 0 = conv p q m := by
  unfold mulS
  rw [strip_get]
  by_cases h : m < p.length + q.length
  · exact map_range_getD _ _ h
  · rw [getD_ge (by simpa using h), conv_zero (by omega) (by omega)]
theorem mulS_len (p q : List Int) : (mulS p q).length ≤ p.length + q.length := by
  have := strip_len ((List.range (p.length + q.length)).map (conv p q))
  simpa [mulS] using this
theorem mulS_abs {p q : List Int} {A B : Nat} (hp : ∀ x ∈ p, x.natAbs ≤ A) (hq : ∀ x ∈ q, x.natAbs ≤ B) : ∀ x ∈ mulS p q, x.natAbs ≤ p.length * (A * B) := by
  refine strip_all (P := fun x => x.natAbs ≤ p.length * (A * B)) fun x hx => ?_
  obtain ⟨m, _, rfl⟩ := List.mem_map.1 hx
  exact convN_abs hp hq _ _
theorem multiply_ok (lim : Nat) (s u : Value) (p q : List Int) (A B : Nat) (H : AHeap) (hl : lim ≤ H.next) (hs : SlI H s p) (hu : SlI H u q) (hn : p.length ≤ 100) (hn2 : q.length ≤ 100)
    (hA : ∀ x ∈ p, x.natAbs ≤ A) (hB : ∀ x ∈ q, x.natAbs ≤ B) (hAB : p.length * (A * B) ≤ 4611686018427387904) :
    ACalls Tryz.prog lim n_impl_multiplySingle [s, u] H fun v H' => (∃ b, H.next ≤ b ∧ VecI H' b v (mulS p q)) ∧ Ext H H' := by
  refine is_impl_multiplySingle.go rfl ?_
  unfold c_impl_multiplySingle
  refine s_reg ?_
  simp only [o_pure, o_nil, POp.ev, Opd.ev, env0, gu, setD, List.set, Option.some.injEq, exists_eq_left']
  have w1 := addN (i := p.length) (j := q.length) (by omega)
  generalize hN : p.length + q.length = N at *
  refine s_reg ?_
  simp only [o_pure, o_eff, o_nil, POp.ev, Opd.ev, EOp.ev, gv, setD, List.set, Option.some.injEq, exists_eq_left', binV, ne_eq, not_true_eq_false, if_false, hs.lenV, hu.lenV, w1, mk_ints H N (by omega)]
  have hv := VecI.mk' H N
  have hx := Ext.alloc H (List.replicate N (Value.int .i64 0))
  have hbl : H.next < (H.alloc (List.replicate N (Value.int .i64 0))).next := Nat.lt_succ_self _
  have e0 : List.replicate N (0 : Int) = (List.range N).map (convN p q 0) := by
    refine List.ext_getElem (by simp) fun k h1 h2 => ?_
    simp [convN]
  rw [e0] at hv
  generalize H.alloc (List.replicate N (Value.int .i64 0)) = H1 at hv hx hbl ⊢
  generalize (Value.slice (some ⟨H.next, 0, some 0⟩) N N) = v at hv ⊢
  refine s_assoc (s_reg ?_)
  simp only [o_pure, o_nil, POp.ev, Opd.ev, gv, setD, List.set, Option.some.injEq, exists_eq_left', hs.lenV]
  refine s_block ?_
  refine s_loop1 (fun k e' H' => ∃ (i : Nat) (x4 x5 x6 x7 x11 x12 x13 : Value), i + k = p.length ∧ VecI H' H.next v ((List.range N).map (convN p q i)) ∧ H.next < H'.next ∧ Ext H H' ∧ e' = [s, u, .slice none 0 0, v, x4, x5, x6, x7, s, .int .i64 p.length, .int .i64 i, x11, x12, x13]) p.length ⟨0, _, _, _, _, _, _, _, by omega, hv, hbl, hx, rfl⟩ ?_
  clear hv hx hbl
  rintro j e' H2 ⟨i, x4, x5, x6, x7, x11, x12, x13, hij, hv, hbl, hx, rfl⟩
  refine s_test ?_
  simp only [o_pure, o_nil, POp.ev, Opd.ev, gv, setD, Option.some.injEq, exists_eq_left', binV, ne_eq, not_true_eq_false, if_false]
  refine Test.split (fun hlt => ?_) (fun hlt => ?_)
  · have hlt' : i < p.length := by simpa using hlt
    obtain ⟨bb, o, h1, h2, h3⟩ := (SlI.ext hs hx).get hlt'
    have hab := hA _ (List.getElem_mem hlt')
    refine s_skip1 ?_
    simp +decide only [p_seq_normal]
    refine s_block ?_
    refine s_reg ?_
    simp only [o_pure, o_nil, POp.ev, Opd.ev, gv, setD, List.set, Option.some.injEq, exists_eq_left', load1V, h1, h3]
    refine s_reg ?_
    simp only [o_pure, o_nil, POp.ev, Opd.ev, gv, setD, List.set, Option.some.injEq, exists_eq_left', hu.lenV]
    refine s_block1 ?_
    have e1 : (List.range N).map (convN p q i) = (List.range N).map (rowK p q i 0) := List.map_congr_left fun m _ => (rowK_zero p q i m).symm
    rw [e1] at hv
    refine s_loop1 (fun kk e' H' => ∃ (k : Nat) (x6 x7 : Value), k + kk = q.length ∧ VecI H' H.next v ((List.range N).map (rowK p q i k)) ∧ H.next < H'.next ∧ Ext H H' ∧ e' = [s, u, .slice none 0 0, v, .int .i64 i, .int .i64 p[i], x6, x7, s, .int .i64 p.length, .int .i64 i, u, .int .i64 q.length, .int .i64 k]) q.length ⟨0, _, _, by omega, hv, hbl, hx, rfl⟩ ?_
    clear hv hx hbl h1 h2 h3
    rintro jj e' H3 ⟨k, x6, x7, hkk, hv, hbl, hx, rfl⟩
    refine s_test ?_
    simp only [o_pure, o_nil, POp.ev, Opd.ev, gv, setD, Option.some.injEq, exists_eq_left', binV, ne_eq, not_true_eq_false, if_false]
    refine Test.split (fun hlt2 => ?_) (fun hlt2 => ?_)
    · have hlk : k < q.length := by simpa using hlt2
      obtain ⟨b2, o2, g1, g2, g3⟩ := (SlI.ext hu hx).get hlk
      have hbb := hB _ (List.getElem_mem hlk)
      have hik : i + k < N := by omega
      obtain ⟨a1, a2⟩ := VecI.at hv (i := i + k) (by simpa using hik)
      rw [map_range_getD N _ hik] at a2
      obtain ⟨cs, c1, c2⟩ := VecI.put (lim := lim) hv hl (i := i + k) (by simpa using hik) (rowK p q i k (i + k) + p.getD i 0 * q.getD k 0)
      have hr1 := rowK_abs hA hB i k (i + k)
      have hm : (p[i] * q[k]).natAbs ≤ A * B := by rw [Int.natAbs_mul]; exact Nat.mul_le_mul hab hbb
      have hle : (i + 1) * (A * B) ≤ p.length * (A * B) := Nat.mul_le_mul_right _ (by omega)
      have hr2 := rowK_abs hA hB i (k + 1) (i + k)
      rw [rowK_step, if_pos rfl] at hr2
      have hle1 : A * B ≤ (i + 1) * (A * B) := Nat.le_mul_of_pos_left _ (by omega)
      have w3 : IntKind.i64.wrap (p[i] * q[k]) = p.getD i 0 * q.getD k 0 := by
        rw [getD_lt hlt', getD_lt hlk]
        exact wr_id (by omega) (by omega)
      have w4 : IntKind.i64.wrap (rowK p q i k (i + k) + p.getD i 0 * q.getD k 0) = rowK p q i k (i + k) + p.getD i 0 * q.getD k 0 := wr_id (by omega) (by omega)
      rw [rowK_set p q N i k hik] at c2
      refine s_skip1 ?_
      simp +decide only [p_seq_normal]
      refine s_block ?_
      refine s_reg ?_
      simp only [o_pure, o_nil, POp.ev, Opd.ev, gv, setD, List.set, Option.some.injEq, exists_eq_left', load1V, g1, g3]
      refine s_reg1 ?_
      simp only [o_pure, o_eff, o_nil, POp.ev, Opd.ev, EOp.ev, gv, setD, Option.some.injEq, exists_eq_left', binV, load1V, ne_eq, not_true_eq_false, if_false, addN (i := i) (j := k) (by omega), a1, a2, w3, w4, c1]
      simp +decide only [p_seq_normal, p_block_normal]
      refine s_reg1 ?_
      simp only [o_pure, o_nil, POp.ev, Opd.ev, gv, setD, List.set, Option.some.injEq, exists_eq_left', binV, ne_eq, not_true_eq_false, if_false, add1 (i := k) (by omega)]
      simp +decide only [p_seq_normal]
      exact Round.mk (jj - 1) (by omega) ⟨k + 1, _, _, by omega, c2, hbl, Chg.ext hx (Chg.put _ _ _) (Nat.le_refl _), rfl⟩
    · have hge : k = q.length := by simp at hlt2; omega
      subst hge
      refine s_exit1 ?_
      simp +decide only [p_seq_normal, p_seq_exit, p_block_normal, p_block_exit, reduceIte]
      refine s_reg1 ?_
      simp only [o_pure, o_nil, POp.ev, Opd.ev, gv, setD, List.set, Option.some.injEq, exists_eq_left', binV, ne_eq, not_true_eq_false, if_false, add1 (i := i) (by omega)]
      simp +decide only [p_seq_normal]
      have e2 : (List.range N).map (rowK p q i q.length) = (List.range N).map (convN p q (i + 1)) := List.map_congr_left fun m _ => rowK_all p q i m
      rw [e2] at hv
      exact Round.mk (j - 1) (by omega) ⟨i + 1, _, _, _, _, _, _, _, by omega, hv, hbl, hx, rfl⟩
  · have hge : i = p.length := by simp at hlt; omega
    subst hge
    refine s_exit1 ?_
    simp +decide only [p_seq_normal, p_seq_exit, p_block_exit, reduceIte]
    have hn2' := hx.next
    refine s_reg ?_
    simp only [o_pure, o_callF, POp.ev, Opd.ev, gv, setD, List.map, Option.some.injEq, exists_eq_left']
    refine (stripped_ok lim v _ H2 (by omega) hv.sl (by simp; omega)).mono ?_
    rintro u H3 ⟨⟨b, hb, hvb⟩, hx3⟩
    simp only [o_cont, o_pure, o_nil, POp.ev, Opd.ev, gv, setD, List.set, Option.some.injEq, exists_eq_left']
    refine s_ret1 ?_
    simp +decide only [p_fin_ret, resV, resOne, gv, Option.some.injEq, exists_eq_left']
    refine ⟨⟨b, by omega, ?_⟩, hx.trans hx3⟩
    have em : mulS p q = strip ((List.range N).map (convN p q p.length)) := by unfold mulS; rw [hN]; rfl
    rw [em]
    exact hvb
def addS (p q : List Int) : List Int := strip ((List.range (max p.length q.length)).map fun i => p.getD i 0 + q.getD i 0)
theorem addS_get (p q : List Int) (m : Nat) : (addS p q).getD m 0 = p.getD m 0 + q.getD m 0 := by
  unfold addS
  rw [strip_get]
  by_cases h : m < max p.length q.length
  · exact map_range_getD _ _ h
  · rw [getD_ge (by simp; omega), getD_ge (by omega), getD_ge (by omega)]; rfl
def addA (p q : List Int) (k i : Nat) : Int := if i < k then p.getD i 0 + q.getD i 0 else 0
theorem addSingle_ok (lim : Nat) (s u : Value) (p q : List Int) (H : AHeap) (hl : lim ≤ H.next) (hs : SlI H s p) (hu : SlI H u q) (hn : p.length ≤ 100) (hn2 : q.length ≤ 100)
    (hA : ∀ x ∈ p, x.natAbs ≤ 2305843009213693952) (hB : ∀ x ∈ q, x.natAbs ≤ 2305843009213693952) :
    ACalls Tryz.prog lim n_impl_addSingle [s, u] H fun v H' => (∃ b, H.next ≤ b ∧ VecI H' b v (addS p q)) ∧ Ext H H' := by
  refine is_impl_addSingle.go rfl ?_
  unfold c_impl_addSingle
  obtain ⟨N, hN, n1, n2, n3⟩ : ∃ N : Nat, (if (q.length : Int) > (p.length : Int) then (q.length : Int) else (p.length : Int)) = (N : Int) ∧ p.length ≤ N ∧ q.length ≤ N ∧ N = max p.length q.length := ⟨max p.length q.length, by split <;> omega, by omega, by omega, rfl⟩
  refine s_reg ?_
  simp only [o_pure, o_nil, POp.ev, Opd.ev, env0, gu, setD, List.set, Option.some.injEq, exists_eq_left']
  refine s_reg ?_
  simp only [o_pure, o_eff, o_nil, POp.ev, Opd.ev, EOp.ev, gv, setD, List.set, Option.some.injEq, exists_eq_left', max2V, hs.lenV, hu.lenV, hN, mk_ints H N (by omega)]
  have hv := VecI.mk' H N
  have hx := Ext.alloc H (List.replicate N (Value.int .i64 0))
  have hbl : H.next < (H.alloc (List.replicate N (Value.int .i64 0))).next := Nat.lt_succ_self _
  have e0 : List.replicate N (0 : Int) = (List.range N).map (addA p q 0) := by
    refine List.ext_getElem (by simp) fun k h1 h2 => ?_
    simp [addA]
  rw [e0] at hv
  generalize H.alloc (List.replicate N (Value.int .i64 0)) = H1 at hv hx hbl ⊢
  generalize (Value.slice (some ⟨H.next, 0, some 0⟩) N N) = v at hv ⊢
  have hvl : ∀ (G : AHeap) (f : Nat → Int), VecI G H.next v ((List.range N).map f) → lenV v = some (.int .i64 (N : Int)) := by
    intro G f h
    have := Vec.lenV h
    simpa using this
  refine s_assoc (s_reg ?_)
  simp only [o_pure, o_nil, POp.ev, Opd.ev, gv, setD, List.set, Option.some.injEq, exists_eq_left', hvl _ _ hv]
  refine s_block ?_
  refine s_loop1 (fun j e' H' => ∃ (k : Nat) (x4 : Value), k + j = N ∧ VecI H' H.next v ((List.range N).map (addA p q k)) ∧ H.next < H'.next ∧ Ext H H' ∧ e' = [s, u, .slice none 0 0, v, x4, .int .i64 (N : Int), .int .i64 k]) N ⟨0, _, by omega, hv, hbl, hx, rfl⟩ ?_
  clear hv hx hbl
  rintro j e' H2 ⟨k, x4, hkj, hv, hbl, hx, rfl⟩
  refine s_test ?_
  simp only [o_pure, o_nil, POp.ev, Opd.ev, gv, setD, Option.some.injEq, exists_eq_left', binV, ne_eq, not_true_eq_false, if_false]
  refine Test.split (fun hlt => ?_) (fun hlt => ?_)
  · have hk : k < N := by have := of_decide_eq_true hlt; omega
    refine s_skip1 ?_
    simp +decide only [p_seq_normal]
    refine s_block ?_
    refine s_reg ?_
    simp only [o_pure, o_nil, POp.ev, Opd.ev, gv, setD, List.set, Option.some.injEq, exists_eq_left']
    have z : addA p q k k = 0 := by simp [addA]
    have pa := getD_abs hA k
    have qa := getD_abs hB k
    refine s_cut (fun e' H' => VecI H' H.next v (((List.range N).map (addA p q k)).set k (p.getD k 0)) ∧ H.next < H'.next ∧ Ext H H' ∧ e' = [s, u, .slice none 0 0, v, .int .i64 k, .int .i64 (N : Int), .int .i64 k]) ?_ ?_
    · refine s_test1 ?_
      simp only [o_pure, o_nil, POp.ev, Opd.ev, gv, setD, Option.some.injEq, exists_eq_left', binV, ne_eq, not_true_eq_false, if_false, hs.lenV]
      refine Test.split (fun hh => ?_) (fun hh => ?_)
      · have hkp : k < p.length := by have := of_decide_eq_true hh; omega
        obtain ⟨b2, o2, g1, g2, g3⟩ := SlI.get (SlI.ext hs hx) hkp
        obtain ⟨a1, a2⟩ := VecI.at hv (i := k) (by simpa using hk)
        rw [map_range_getD N _ hk, z] at a2
        have w : IntKind.i64.wrap (0 + p[k]) = p.getD k 0 := by rw [Int.zero_add, ← getD_lt hkp]; exact wr_id (by omega) (by omega)
        obtain ⟨cs, c1, c2⟩ := VecI.put (lim := lim) hv hl (i := k) (by simpa using hk) (p.getD k 0)
        refine s_reg1 ?_
        simp only [o_pure, o_eff, o_nil, POp.ev, Opd.ev, EOp.ev, gv, setD, Option.some.injEq, exists_eq_left', binV, load1V, ne_eq, not_true_eq_false, if_false, a1, a2, g1, g3, w, c1]
        simp +decide only [p_seq_normal]
        exact ⟨c2, hbl, Chg.ext hx (Chg.put _ _ _) (Nat.le_refl _), trivial⟩
      · have hkp : ¬ k < p.length := by have := of_decide_eq_false hh; omega
        refine s_skip1 ?_
        simp +decide only [p_seq_normal]
        refine ⟨?_, hbl, hx, trivial⟩
        have : ((List.range N).map (addA p q k)).set k (p.getD k 0) = (List.range N).map (addA p q k) := by
          rw [getD_ge (by omega), ← z]
          exact set_map_range _ _ hk fun m _ _ => rfl
        rw [this]
        exact hv
    · rintro e' H3 ⟨hv, hbl, hx, rfl⟩
      have hlen3 : (((List.range N).map (addA p q k)).set k (p.getD k 0)).length = N := by simp
      have hget : (((List.range N).map (addA p q k)).set k (p.getD k 0)).getD k 0 = p.getD k 0 := by rw [getD_set _ _ _ _ (by simpa using hk), if_pos rfl]
      have hfin : (((List.range N).map (addA p q k)).set k (p.getD k 0)).set k (p.getD k 0 + q.getD k 0) = (List.range N).map (addA p q (k + 1)) := by
        rw [List.set_set]
        have e : p.getD k 0 + q.getD k 0 = addA p q (k + 1) k := by unfold addA; rw [if_pos (by omega)]
        rw [e]
        exact set_map_range _ _ hk fun m _ hne => by unfold addA; by_cases h : m < k; rw [if_pos h, if_pos (by omega)]; rw [if_neg h, if_neg (by omega)]
      refine s_test1 ?_
      simp only [o_pure, o_nil, POp.ev, Opd.ev, gv, setD, Option.some.injEq, exists_eq_left', binV, ne_eq, not_true_eq_false, if_false, hu.lenV]
      refine Test.split (fun hh => ?_) (fun hh => ?_)
      · have hkq : k < q.length := by have := of_decide_eq_true hh; omega
        obtain ⟨b2, o2, g1, g2, g3⟩ := SlI.get (SlI.ext hu hx) hkq
        obtain ⟨a1, a2⟩ := VecI.at hv (i := k) (by rw [hlen3]; exact hk)
        rw [hget] at a2
        have w : IntKind.i64.wrap (p.getD k 0 + q[k]) = p.getD k 0 + q.getD k 0 := by rw [← getD_lt hkq]; exact wr_id (by omega) (by omega)
        obtain ⟨cs, c1, c2⟩ := VecI.put (lim := lim) hv hl (i := k) (by rw [hlen3]; exact hk) (p.getD k 0 + q.getD k 0)
        rw [hfin] at c2
        refine s_reg1 ?_
        simp only [o_pure, o_eff, o_nil, POp.ev, Opd.ev, EOp.ev, gv, setD, Option.some.injEq, exists_eq_left', binV, load1V, ne_eq, not_true_eq_false, if_false, a1, a2, g1, g3, w, c1]
        simp +decide only [p_seq_normal, p_block_normal]
        refine s_reg1 ?_
        simp only [o_pure, o_nil, POp.ev, Opd.ev, gv, setD, List.set, Option.some.injEq, exists_eq_left', binV, ne_eq, not_true_eq_false, if_false, add1 (i := k) (by omega)]
        simp +decide only [p_seq_normal]
        exact Round.mk (j - 1) (by omega) ⟨k + 1, _, by omega, c2, hbl, Chg.ext hx (Chg.put _ _ _) (Nat.le_refl _), rfl⟩
      · have hkq : ¬ k < q.length := by have := of_decide_eq_false hh; omega
        have e2 : ((List.range N).map (addA p q k)).set k (p.getD k 0) = (List.range N).map (addA p q (k + 1)) := by
          rw [← hfin, getD_ge (p := q) (by omega), Int.add_zero, List.set_set]
        rw [e2] at hv
        refine s_skip1 ?_
        simp +decide only [p_seq_normal, p_block_normal]
        refine s_reg1 ?_
        simp only [o_pure, o_nil, POp.ev, Opd.ev, gv, setD, List.set, Option.some.injEq, exists_eq_left', binV, ne_eq, not_true_eq_false, if_false, add1 (i := k) (by omega)]
        simp +decide only [p_seq_normal]
        exact Round.mk (j - 1) (by omega) ⟨k + 1, _, by omega, hv, hbl, hx, rfl⟩
  · have hge : k = N := by have := of_decide_eq_false hlt; omega
    subst hge
    have hn2' := hx.next
    refine s_exit1 ?_
    simp +decide only [p_seq_normal, p_seq_exit, p_block_exit, reduceIte]
    refine s_reg ?_
    simp only [o_pure, o_callF, POp.ev, Opd.ev, gv, setD, List.map, Option.some.injEq, exists_eq_left']
    refine (stripped_ok lim v _ H2 (by omega) hv.sl (by simp; omega)).mono ?_
    rintro w H3 ⟨⟨b, hb, hvb⟩, hx3⟩
    simp only [o_cont, o_pure, o_nil, POp.ev, Opd.ev, gv, setD, List.set, Option.some.injEq, exists_eq_left']
    refine s_ret1 ?_
    simp +decide only [p_fin_ret, resV, resOne, gv, Option.some.injEq, exists_eq_left']
    refine ⟨⟨b, by omega, ?_⟩, hx.trans hx3⟩
    have em : (List.range k).map (addA p q k) = (List.range (max p.length q.length)).map fun i => p.getD i 0 + q.getD i 0 := by
      rw [← n3]
      exact List.map_congr_left fun i hi => by unfold addA; rw [if_pos (by simpa using hi)]
    unfold addS
    rw [← em]
    exact hvb
end Go.Proofs.YtldpdjpchcoigaaGreat

/- Coefficient lists, the program: derivatives, powers, coefficients over an interval; no condition beyond stated ranges. -/
namespace Go.Proofs.YtldpdjpchcoigaaGreat
open Go.Ab Ints
set_option linter.unusedSimpArgs false
set_option linter.unusedVariables false

theorem abs_all {L : List Int} {A : Nat} (h : ∀ m, (L.getD m 0).natAbs ≤ A) : ∀ x ∈ L, x.natAbs ≤ A := by
  intro x hx
  obtain ⟨i, hi, rfl⟩ := List.mem_iff_getElem.1 hx
  have := h i
  rwa [getD_lt hi] at this
theorem strip_short {X : List Int} {d : Nat} (h : ∀ m, d ≤ m → X.getD m 0 = 0) : (strip X).length ≤ d := by
  have e : strip X = strip (X.take d) := strip_congr fun m => by
    by_cases hm : m < d
    · rw [List.getD_eq_getElem?_getD, List.getD_eq_getElem?_getD, List.getElem?_take, if_pos hm]
    · rw [h m (by omega), getD_ge (by simp; omega)]
  rw [e]
  have := strip_len (X.take d)
  simp at this
  omega
theorem list_of {L : List Int} {g : Nat → Int} {n : Nat} (hl : L.length = n) (h : ∀ m, m < n → L.getD m 0 = g m) : L = (List.range n).map g := by
  refine List.ext_getElem (by simp [hl]) fun m h1 h2 => ?_
  have := h m (by omega)
  rw [getD_lt h1] at this
  simp [this]
theorem pad_get (L : List Int) (j m : Nat) : (L ++ List.replicate j 0).getD m 0 = L.getD m 0 := by
  rw [List.getD_eq_getElem?_getD, List.getD_eq_getElem?_getD, List.getElem?_append]
  split
  · rfl
  · rw [List.getElem?_replicate, List.getElem?_eq_none (l := L) (by omega)]
    split <;> rfl
theorem derL_get (f : List Int) (m : Nat) : (derL f f.length).getD m 0 = ((m : Int) + 1) * f.getD (m + 1) 0 := by
  by_cases h : m < f.length - 1
  · exact map_range_getD _ _ h
  · rw [getD_ge (by rw [derL_len]; omega), getD_ge (p := f) (by omega), Int.mul_zero]
theorem deriveSingle_ok (lim : Nat) (s : Value) (f : List Int) (A : Nat) (H : AHeap) (hl : lim ≤ H.next) (hs : SlI H s f) (hn : f.length ≤ 100) (hA : ∀ x ∈ f, x.natAbs ≤ A) (hA2 : A ≤ 1099511627776) :
    ACalls Tryz.prog lim n_impl_deriveSingle [s] H fun v H' => (∃ b, H.next ≤ b ∧ VecI H' b v (strip (derL f f.length))) ∧ Ext H H' := by
  refine is_impl_deriveSingle.go rfl ?_
  unfold c_impl_deriveSingle
  refine s_reg ?_
  simp only [o_pure, o_nil, POp.ev, Opd.ev, env0, gu, setD, List.set, Option.some.injEq, exists_eq_left']
  refine s_reg ?_
  simp only [o_pure, o_nil, POp.ev, Opd.ev, setD, List.set, Option.some.injEq, exists_eq_left']
  refine s_assoc (s_reg ?_)
  simp only [o_pure, o_nil, POp.ev, Opd.ev, setD, List.set, Option.some.injEq, exists_eq_left']
  refine s_block ?_
  refine s_loop1 (fun k e' H' => ∃ (i b : Nat) (v : Value), 1 ≤ i ∧ i + k = f.length + 1 ∧ (i ≤ f.length ∨ i = 1) ∧ H.next ≤ b ∧ VecI H' b v (derL f i) ∧ Ext H H' ∧ e' = [s, .slice none 0 0, v, .int .i64 i]) f.length ⟨1, H.next, _, Nat.le_refl _, by omega, .inr rfl, Nat.le_refl _, VecI.nil _ _, Ext.refl _, rfl⟩ ?_
  rintro k e' H1 ⟨i, b, v, hi1, hik, hi2, hb, hv, hx, rfl⟩
  have hnx := hx.next
  refine s_test ?_
  simp only [o_pure, o_nil, POp.ev, Opd.ev, gv, setD, Option.some.injEq, exists_eq_left', binV, ne_eq, not_true_eq_false, if_false, Sl.lenV (SlI.ext hs hx)]
  refine Test.split (fun hlt => ?_) (fun hlt => ?_)
  · have hlt' : i < f.length := by simpa using hlt
    obtain ⟨bb, o, h1, h2, h3⟩ := (SlI.ext hs hx).get hlt'
    have hab := hA _ (List.getElem_mem hlt')
    have hm : ((i : Int) * f[i]).natAbs ≤ 100 * A := by rw [Int.natAbs_mul]; exact Nat.mul_le_mul (by omega) hab
    have w1 : IntKind.i64.wrap ((i : Int) * f[i]) = (i : Int) * f[i] := wr_id (by omega) (by omega)
    obtain ⟨v', H2, b', g1, g2, g3, g4, g5⟩ := VecI.push (lim := lim) hv ((i : Int) * f[i]) (by omega) (by rw [derL_len]; omega)
    refine s_skip1 ?_
    simp +decide only [p_seq_normal]
    refine s_block ?_
    refine s_reg1 ?_
    simp only [o_pure, o_eff, o_nil, POp.ev, Opd.ev, EOp.ev, gv, setD, List.set, List.map, Option.some.injEq, exists_eq_left', binV, load1V, ne_eq, not_true_eq_false, if_false, h1, h3, w1, bslice1, g1]
    simp +decide only [p_seq_normal, p_block_normal]
    refine s_reg1 ?_
    simp only [o_pure, o_nil, POp.ev, Opd.ev, gv, setD, List.set, Option.some.injEq, exists_eq_left', binV, ne_eq, not_true_eq_false, if_false, add1 (i := i) (by omega)]
    simp +decide only [p_seq_normal]
    refine Round.mk (k - 1) (by omega) ⟨i + 1, b', v', by omega, by omega, .inl (by omega), ?_, ?_, Chg.ext hx g5 hb, rfl⟩
    · rcases g3 with rfl | g3 <;> omega
    · rw [derL_succ f (by omega), getD_lt hlt']; exact g2
  · have hge : f.length ≤ i := by have := of_decide_eq_false hlt; omega
    have hder : derL f i = derL f f.length := by
      by_cases h0 : i = f.length
      · rw [h0]
      · have : f.length = 0 := by omega
        unfold derL
        rw [this, show i - 1 = 0 by omega]
    rw [hder] at hv
    refine s_exit1 ?_
    simp +decide only [p_seq_normal, p_seq_exit, p_block_exit, reduceIte]
    refine s_reg ?_
    simp only [o_pure, o_callF, POp.ev, Opd.ev, gv, setD, List.map, Option.some.injEq, exists_eq_left']
    refine (stripped_ok lim v _ H1 (by omega) hv.sl (by rw [derL_len]; omega)).mono ?_
    rintro u H2 ⟨⟨c, hc, hvc⟩, hx2⟩
    simp only [o_cont, o_pure, o_nil, POp.ev, Opd.ev, gv, setD, List.set, Option.some.injEq, exists_eq_left']
    refine s_ret1 ?_
    simp +decide only [p_fin_ret, resV, resOne, gv, Option.some.injEq, exists_eq_left']
    exact ⟨⟨c, by omega, hvc⟩, hx.trans hx2⟩
/-- a power of a linear factor, as a list -/
structure PowL (u v : Int) (n : Nat) (L : List Int) : Prop where
  get : ∀ m, L.getD m 0 = linP u v n delta m
  len : L.length ≤ 2 * n + 1
theorem PowL.abs {u v : Int} {n : Nat} {L : List Int} (h : PowL u v n L) (hb : u.natAbs + v.natAbs ≤ 512) : ∀ x ∈ L, x.natAbs ≤ 512 ^ n := by
  refine abs_all fun m => ?_
  rw [h.get]
  have := linP_abs (u := u) (v := v) delta_abs n m
  have h4 : (u.natAbs + v.natAbs) ^ n ≤ 512 ^ n := Nat.pow_le_pow_left hb n
  omega
theorem powerSingle_ok (lim : Nat) (s : Value) (u v : Int) (n : Nat) (H : AHeap) (hl : lim ≤ H.next) (hs : SlI H s [u, v]) (hn : n ≤ 4) (hb : u.natAbs + v.natAbs ≤ 512) :
    ACalls Tryz.prog lim n_impl_powerSingle [s, .int .i64 n] H fun w H' => (∃ L, SlI H' w L ∧ PowL u v n L) ∧ Ext H H' := by
  refine is_impl_powerSingle.go rfl ?_
  unfold c_impl_powerSingle
  refine s_reg ?_
  simp only [o_pure, o_nil, POp.ev, Opd.ev, env0, gu, setD, List.set, Option.some.injEq, exists_eq_left']
  refine s_reg ?_
  simp only [o_pure, o_eff, o_nil, POp.ev, Opd.ev, EOp.ev, gv, setD, List.set, List.map, Option.some.injEq, exists_eq_left', bslice1]
  have hv := Vec.lit (H := H) (n := 1) (sz := 1) (cells := [Value.int .i64 1]) rfl
  have hv1 : SlI (H.alloc [Value.int .i64 1]) (.slice (some ⟨H.next, 0, some 0⟩) 1 1) [1] := Vec.sl hv
  have hx := Ext.alloc H [Value.int .i64 1]
  generalize H.alloc [Value.int .i64 1] = H1 at hv1 hx ⊢
  generalize (Value.slice (some ⟨H.next, 0, some 0⟩) 1 1) = w at hv1 ⊢
  refine s_assoc (s_reg ?_)
  simp only [o_pure, o_nil, POp.ev, Opd.ev, gv, setD, List.set, Option.some.injEq, exists_eq_left']
  refine s_block ?_
  refine s_loop1 (fun k e' H' => ∃ (i : Nat) (w : Value) (L : List Int), i + k = n ∧ SlI H' w L ∧ PowL u v i L ∧ Ext H H' ∧ e' = [s, .int .i64 n, .slice none 0 0, w, .int .i64 n, .int .i64 i]) n ⟨0, w, [1], by omega, hv1, ⟨fun m => by rw [← delta_get]; rfl, by simp⟩, hx, rfl⟩ ?_
  clear hv hv1 hx
  rintro k e' G ⟨i, w, L, hik, hw, hL, hx, rfl⟩
  have hnx := hx.next
  refine s_test ?_
  simp only [o_pure, o_nil, POp.ev, Opd.ev, gv, setD, Option.some.injEq, exists_eq_left', binV, ne_eq, not_true_eq_false, if_false]
  refine Test.split (fun hlt => ?_) (fun hlt => ?_)
  · have hlt' : i < n := by have := of_decide_eq_true hlt; omega
    have hLa := hL.abs hb
    have hLl := hL.len
    have hB : ∀ x ∈ [u, v], x.natAbs ≤ 512 := by intro x hx; simp at hx; rcases hx with rfl | rfl <;> omega
    have h5 : 512 ^ i ≤ 512 ^ 3 := Nat.pow_le_pow_right (by decide) (by omega)
    refine s_skip1 ?_
    simp +decide only [p_seq_normal]
    refine s_block ?_
    refine s_reg1 ?_
    simp only [o_pure, o_callF, POp.ev, Opd.ev, gv, setD, List.map, Option.some.injEq, exists_eq_left']
    refine (multiply_ok lim w s L [u, v] (512 ^ i) 512 G (by omega) hw (SlI.ext hs hx) (by omega) (by simp) hLa hB ?_).mono ?_
    · have h6 : L.length * (512 ^ i * 512) ≤ 9 * (512 ^ 3 * 512) := Nat.mul_le_mul (by omega) (Nat.mul_le_mul_right _ h5)
      omega
    rintro w' G2 ⟨⟨b, hb2, hvb⟩, hx2⟩
    simp only [o_cont, o_pure, o_nil, POp.ev, Opd.ev, gv, setD, List.set, Option.some.injEq, exists_eq_left']
    simp +decide only [p_seq_normal, p_block_normal]
    refine s_reg1 ?_
    simp only [o_pure, o_nil, POp.ev, Opd.ev, gv, setD, List.set, Option.some.injEq, exists_eq_left', binV, ne_eq, not_true_eq_false, if_false, add1 (i := i) (by omega)]
    simp +decide only [p_seq_normal]
    refine Round.mk (k - 1) (by omega) ⟨i + 1, w', mulS L [u, v], by omega, hvb.sl, ⟨fun m => ?_, ?_⟩, hx.trans hx2, rfl⟩
    · rw [mulS_get, conv_two]
      have e : (fun k => L.getD k 0) = linP u v i delta := funext hL.get
      rw [e]
      rfl
    · have := mulS_len L [u, v]
      simp at this
      omega
  · have hge : i = n := by have := of_decide_eq_false hlt; omega
    subst hge
    refine s_exit1 ?_
    simp +decide only [p_seq_normal, p_seq_exit, p_block_exit, reduceIte]
    refine s_reg ?_
    simp only [o_pure, o_nil, POp.ev, Opd.ev, gv, setD, List.set, Option.some.injEq, exists_eq_left']
    refine s_ret1 ?_
    simp +decide only [p_fin_ret, resV, resOne, gv, Option.some.injEq, exists_eq_left']
    exact ⟨⟨L, hw, hL⟩, hx⟩
/-- the summand of one coefficient -/
theorem part_bq {lo hi one : Int} {e : Nat} {P1 P2 : List Int} (he : e ≤ 4) (h1 : PowL lo hi e P1) (h2 : PowL one one (4 - e) P2) (m : Nat) : (mulS P1 P2).getD m 0 = bq lo hi one 4 e m := by
  rw [mulS_get, conv_linP one one P1 (4 - e) P2 h2.get]
  have e1 : (fun k => P1.getD k 0) = linP lo hi e delta := funext h1.get
  rw [e1]
  rfl
theorem overInterval_ok (lim : Nat) (s : Value) (f : List Int) (a b : Int × Nat) (H : AHeap) (hl : lim ≤ H.next) (hs : SlI H s f) (hn : f.length = 5) (hA : ∀ x ∈ f, x.natAbs ≤ 160000) (ha : Fit a) (hb : Fit b) :
    ACalls Tryz.prog lim n_impl_overInterval [s, tv (iv a b)] H fun v H' => SlI H' v (over f (a.1 * 2 ^ (max a.2 b.2 - a.2)) (b.1 * 2 ^ (max a.2 b.2 - b.2)) (2 ^ max a.2 b.2)) ∧ Ext H H' := by
  obtain ⟨ha1, ha2, ha3⟩ := ha
  obtain ⟨hb1, hb2, hb3⟩ := hb
  refine is_impl_overInterval.go rfl ?_
  have hda : tv (iv a b) = .agg #[vi a.1, vi a.2, vi b.1, vi b.2] := rfl
  unfold c_impl_overInterval
  rw [hda]
  refine s_reg ?_
  simp only [o_pure, o_eff, o_nil, POp.ev, Opd.ev, EOp.ev, env0, gu, gv, setD, List.set, Option.map_some, Option.some.injEq, exists_eq_left', boxH, cellsV]
  have hx := Ext.alloc H [vi a.1, vi a.2, vi b.1, vi b.2]
  have hb0 := alloc_new H [vi a.1, vi a.2, vi b.1, vi b.2]
  generalize H.alloc [vi a.1, vi a.2, vi b.1, vi b.2] = H1 at hx hb0 ⊢
  generalize hqe : H.next = q0 at *
  have hn1 := hx.next
  have hka : a.2 ≤ max a.2 b.2 := Nat.le_max_left _ _
  have hkb : b.2 ≤ max a.2 b.2 := Nat.le_max_right _ _
  have hk5 : max a.2 b.2 ≤ 5 := Nat.max_le.2 ⟨ha1, hb1⟩
  have hk : (if (b.2 : Int) > (a.2 : Int) then (b.2 : Int) else (a.2 : Int)) = ((max a.2 b.2 : Nat) : Int) := by split <;> omega
  have e1 := ha3 _ hka hk5
  have e2 := hb3 _ hkb hk5
  refine s_reg ?_
  simp only [o_pure, o_nil, POp.ev, Opd.ev, gv, setD, List.set, Option.some.injEq, exists_eq_left', load1V, max2V, fadV, List.getElem?_cons_zero, List.getElem?_cons_succ, Nat.zero_add, Nat.add_zero, Nat.reduceAdd, cell_blk hb0, hk]
  generalize max a.2 b.2 = k at hka hkb hk5 e1 e2 ⊢
  have w1 : IntKind.i64.wrap ((k : Int) - (a.2 : Int)) = ((k - a.2 : Nat) : Int) := by rw [show (k : Int) - a.2 = ((k - a.2 : Nat) : Int) by omega]; exact wr_nat (by omega)
  have w2 : IntKind.i64.wrap ((k : Int) - (b.2 : Int)) = ((k - b.2 : Nat) : Int) := by rw [show (k : Int) - b.2 = ((k - b.2 : Nat) : Int) by omega]; exact wr_nat (by omega)
  have bi : IntKind.i64.bits = 64 := rfl
  have m1 : ∀ j : Nat, j ≤ 5 → min ((j : Int)).toNat IntKind.i64.bits = j := fun j hj => by rw [bi]; omega
  have nn : ∀ j : Nat, ¬ ((j : Int) < 0) := fun j => by omega
  have p1 := pow_le2 hk5
  have p2 := pow_pos2 k
  have p3 : (2 : Int) ^ 5 = 32 := by decide
  have w3 : IntKind.i64.wrap (a.1 * 2 ^ (k - a.2)) = a.1 * 2 ^ (k - a.2) := wr_id (by omega) (by omega)
  have w4 : IntKind.i64.wrap (b.1 * 2 ^ (k - b.2)) = b.1 * 2 ^ (k - b.2) := wr_id (by omega) (by omega)
  have w5 : IntKind.i64.wrap (1 * 2 ^ k) = 2 ^ k := by rw [Int.one_mul]; exact wr_id (by omega) (by omega)
  refine s_reg ?_
  simp only [o_pure, o_nil, POp.ev, Opd.ev, gv, setD, List.set, Option.some.injEq, exists_eq_left', binV, load1V, fadV, ne_eq, not_true_eq_false, if_false, List.getElem?_cons_zero, List.getElem?_cons_succ, Nat.zero_add, Nat.add_zero, Nat.reduceAdd, cell_blk hb0, w1, w2, nn, m1 _ (show k - a.2 ≤ 5 by omega), m1 _ (show k - b.2 ≤ 5 by omega), m1 _ hk5, w3, w4, w5]
  have ho : ((2 : Int) ^ k).natAbs ≤ 256 := by omega
  have ho2 : ((2 : Int) ^ k).natAbs + ((2 : Int) ^ k).natAbs ≤ 512 := by omega
  generalize a.1 * 2 ^ (k - a.2) = lo at e1 ⊢
  generalize b.1 * 2 ^ (k - b.2) = hi at e2 ⊢
  have he12 : lo.natAbs + hi.natAbs ≤ 512 := by omega
  refine s_reg ?_
  simp only [o_pure, o_nil, POp.ev, Opd.ev, setD, List.set, Option.some.injEq, exists_eq_left']
  refine s_assoc (s_reg ?_)
  simp only [o_pure, o_nil, POp.ev, Opd.ev, gv, setD, List.set, Option.some.injEq, exists_eq_left', Sl.lenV (SlI.ext hs hx)]
  refine s_block ?_
  refine s_loop1 (fun w e' H' => ∃ (j : Nat) (sm x9 x10 x11 : Value) (S : List Int), j + w = f.length ∧ SlI H' sm S ∧ (∀ m, S.getD m 0 = ovN f lo hi (2 ^ k) 4 j m) ∧ S.length ≤ 5 ∧ (∃ c, q0 ≤ c ∧ VecI H' c sm S) ∧ Ext H H' ∧
    e' = [s, .agg #[vi a.1, vi a.2, vi b.1, vi b.2], .pointer (some ⟨q0, 0, none⟩), .slice none 0 0, .int .i64 (k : Int), .int .i64 lo, .int .i64 hi, .int .i64 (2 ^ k), sm, x9, x10, x11, s, .int .i64 f.length, .int .i64 j]) f.length ⟨0, _, _, _, _, [], by omega, Sl.nil _ _, fun m => by simp [ovN], by simp, ⟨q0, Nat.le_refl _, Vec.nil _ _ _⟩, hx, rfl⟩ ?_
  clear hx hb0
  rintro w e' G ⟨j, sm, x9, x10, x11, S, hjw, hS, hSg, hSl, ⟨c, hc, hSv⟩, hx, rfl⟩
  have hnx := hx.next
  refine s_test ?_
  simp only [o_pure, o_nil, POp.ev, Opd.ev, gv, setD, Option.some.injEq, exists_eq_left', binV, ne_eq, not_true_eq_false, if_false]
  refine Test.split (fun hlt => ?_) (fun hlt => ?_)
  · have hlj : j < f.length := by have := of_decide_eq_true hlt; omega
    obtain ⟨bb, o, g1, g2, g3⟩ := (SlI.ext hs hx).get hlj
    have hab := hA _ (List.getElem_mem hlj)
    have wl : IntKind.i64.wrap ((f.length : Int) - 1) = ((4 : Nat) : Int) := by rw [hn]; decide
    have wj : IntKind.i64.wrap (((4 : Nat) : Int) - (j : Int)) = ((4 - j : Nat) : Int) := by rw [show ((4 : Nat) : Int) - j = ((4 - j : Nat) : Int) by omega]; exact wr_nat (by omega)
    refine s_skip1 ?_
    simp +decide only [p_seq_normal]
    refine s_block ?_
    refine s_reg ?_
    simp only [o_pure, o_nil, POp.ev, Opd.ev, gv, setD, List.set, Option.some.injEq, exists_eq_left', load1V, g1, g3]
    refine s_reg ?_
    simp only [o_pure, o_eff, o_callF, POp.ev, Opd.ev, EOp.ev, gv, setD, List.map, Option.some.injEq, exists_eq_left', bslice2]
    have hw1 := Vec.lit (H := G) (n := 2) (sz := 1) (cells := [Value.int .i64 lo, .int .i64 hi]) rfl
    have hg1 := Ext.alloc G [Value.int .i64 lo, .int .i64 hi]
    have hgn1 : (G.alloc [Value.int .i64 lo, .int .i64 hi]).next = G.next + 1 := rfl
    refine (powerSingle_ok lim _ lo hi j _ (by omega) hw1.sl (by omega) he12).mono ?_
    rintro v1 G1 ⟨⟨P1, hP1, hp1⟩, hg2⟩
    have hn2 := hg2.next
    simp only [o_cont, o_pure, o_eff, o_callF, POp.ev, Opd.ev, EOp.ev, gv, setD, List.map, Option.some.injEq, exists_eq_left', binV, ne_eq, not_true_eq_false, if_false, bslice2, Sl.lenV (SlI.ext hs ((hx.trans hg1).trans hg2)), wl, wj]
    have hw2 := Vec.lit (H := G1) (n := 2) (sz := 1) (cells := [Value.int .i64 (2 ^ k), .int .i64 (2 ^ k)]) rfl
    have hg3 := Ext.alloc G1 [Value.int .i64 (2 ^ k), .int .i64 (2 ^ k)]
    have hgn3 : (G1.alloc [Value.int .i64 (2 ^ k), .int .i64 (2 ^ k)]).next = G1.next + 1 := rfl
    refine (powerSingle_ok lim _ (2 ^ k) (2 ^ k) (4 - j) _ (by omega) hw2.sl (by omega) ho2).mono ?_
    rintro v2 G2 ⟨⟨P2, hP2, hp2⟩, hg4⟩
    have hn4 := hg4.next
    have q1 := hp1.abs he12
    have q2 := hp2.abs ho2
    have l1 := hp1.len
    have l2 := hp2.len
    have hpw : (512 : Nat) ^ j * 512 ^ (4 - j) = 512 ^ 4 := by rw [← Nat.pow_add]; congr 1; omega
    simp only [o_cont, o_callF, Opd.ev, gv, setD, List.map]
    refine (multiply_ok lim v1 v2 P1 P2 (512 ^ j) (512 ^ (4 - j)) G2 (by omega) (SlI.ext hP1 (hg3.trans hg4)) hP2 (by omega) (by omega) q1 q2 ?_).mono ?_
    · rw [hpw]
      have : P1.length * 512 ^ 4 ≤ 9 * 512 ^ 4 := Nat.mul_le_mul_right _ (by omega)
      omega
    rintro v3 G3 ⟨⟨c3, hc3, hv3⟩, hg5⟩
    have hn5 := hg5.next
    simp only [o_cont, o_pure, o_nil, POp.ev, Opd.ev, gv, setD, List.set, Option.some.injEq, exists_eq_left']
    have hx3 := (((hx.trans hg1).trans hg2).trans (hg3.trans hg4)).trans hg5
    have hbq := part_bq (lo := lo) (hi := hi) (one := 2 ^ k) (show j ≤ 4 by omega) hp1 hp2
    have hpl : (mulS P1 P2).length ≤ 10 := by have := mulS_len P1 P2; omega
    have hpa : ∀ x ∈ mulS P1 P2, x.natAbs ≤ 512 ^ 4 := abs_all fun m => by rw [hbq]; exact bq_abs (show j ≤ 4 by omega) he12 ho
    generalize mulS P1 P2 = PP at hbq hpl hpa hv3
    refine s_reg1 ?_
    simp only [o_pure, o_eff, o_callF, POp.ev, Opd.ev, EOp.ev, gv, setD, List.map, Option.some.injEq, exists_eq_left', bslice1]
    have hw4 := Vec.lit (H := G3) (n := 1) (sz := 1) (cells := [Value.int .i64 f[j]]) rfl
    have hg6 := Ext.alloc G3 [Value.int .i64 f[j]]
    have hgn6 : (G3.alloc [Value.int .i64 f[j]]).next = G3.next + 1 := rfl
    have hw4' : SlI (G3.alloc [Value.int .i64 f[j]]) (.slice (some ⟨G3.next, 0, some 0⟩) 1 1) [f[j]] := hw4.sl
    refine (multiply_ok lim v3 _ PP [f[j]] (512 ^ 4) 160000 _ (by omega) (SlI.ext hv3.sl hg6) hw4' (by omega) (by simp) hpa (by intro x hx; simp at hx; rw [hx]; exact hab) ?_).mono ?_
    · have : PP.length * (512 ^ 4 * 160000) ≤ 10 * (512 ^ 4 * 160000) := Nat.mul_le_mul_right _ hpl
      omega
    rintro v4 G4 ⟨⟨c4, hc4, hv4⟩, hg7⟩
    have hn7 := hg7.next
    have hxg := (hg1.trans (hg2.trans (hg3.trans (hg4.trans (hg5.trans (hg6.trans hg7))))))
    have hm4 : ∀ m, (mulS PP [f[j]]).getD m 0 = f.getD j 0 * bq lo hi (2 ^ k) 4 j m := fun m => by rw [mulS_get, conv_one, hbq, getD_lt hlj, Int.mul_comm]
    have hov : ∀ m, (ovN f lo hi (2 ^ k) 4 j m).natAbs ≤ 5 * (160000 * 512 ^ 4) := fun m => by
      have := ovN_abs (n := 4) he12 ho hA m j (by omega)
      exact Nat.le_trans this (Nat.mul_le_mul_right _ (by omega))
    have hSa : ∀ x ∈ S, x.natAbs ≤ 2305843009213693952 := abs_all fun m => by rw [hSg]; have := hov m; omega
    have h4a : ∀ x ∈ mulS PP [f[j]], x.natAbs ≤ 2305843009213693952 := abs_all fun m => by
      rw [hm4, Int.natAbs_mul]
      have h1 : (f.getD j 0).natAbs ≤ 160000 := getD_abs hA j
      have h2 : (bq lo hi (2 ^ k) 4 j m).natAbs ≤ 512 ^ 4 := bq_abs (show j ≤ 4 by omega) he12 ho
      have := Nat.mul_le_mul h1 h2
      omega
    have h4l := mulS_len PP [f[j]]
    simp only [List.length_cons, List.length_nil] at h4l
    simp only [o_cont, o_callF, Opd.ev, gv, setD, List.map]
    refine (addSingle_ok lim sm v4 S (mulS PP [f[j]]) G4 (by omega) (SlI.ext hS hxg) hv4.sl (by omega) (by omega) hSa h4a).mono ?_
    rintro v5 G5 ⟨⟨c5, hc5, hv5⟩, hg8⟩
    simp only [o_cont, o_pure, o_nil, POp.ev, Opd.ev, gv, setD, List.set, Option.some.injEq, exists_eq_left']
    simp +decide only [p_seq_normal, p_block_normal]
    refine s_reg1 ?_
    simp only [o_pure, o_nil, POp.ev, Opd.ev, gv, setD, List.set, Option.some.injEq, exists_eq_left', binV, ne_eq, not_true_eq_false, if_false, add1 (i := j) (by omega)]
    simp +decide only [p_seq_normal]
    have hnew : ∀ m, (addS S (mulS PP [f[j]])).getD m 0 = ovN f lo hi (2 ^ k) 4 (j + 1) m := fun m => by rw [addS_get, hSg, hm4]; rfl
    refine Round.mk (w - 1) (by omega) ⟨j + 1, v5, _, _, _, addS S (mulS PP [f[j]]), by omega, hv5.sl, hnew, ?_, ⟨c5, by omega, hv5⟩, ((hx.trans hxg).trans hg8), rfl⟩
    refine strip_short fun m hm => ?_
    have h1 := hnew m
    unfold addS at h1
    rw [strip_get] at h1
    rw [h1]
    exact ovN_supp (by omega) _ (by omega)
  · have hge : j = f.length := by have := of_decide_eq_false hlt; omega
    subst hge
    refine s_exit1 ?_
    simp +decide only [p_seq_normal, p_seq_exit, p_block_exit, reduceIte]
    refine s_block ?_
    refine s_loop1 (fun w e' H' => ∃ (z c : Nat) (sm : Value), S.length + z + w = 5 ∧ q0 ≤ c ∧ VecI H' c sm (S ++ List.replicate z 0) ∧ Ext H H' ∧
      e' = [s, .agg #[vi a.1, vi a.2, vi b.1, vi b.2], .pointer (some ⟨q0, 0, none⟩), .slice none 0 0, .int .i64 (k : Int), .int .i64 lo, .int .i64 hi, .int .i64 (2 ^ k), sm, x9, x10, x11, s, .int .i64 f.length, .int .i64 f.length]) (5 - S.length) ⟨0, c, sm, by omega, hc, by simpa using hSv, hx, rfl⟩ ?_
    clear hSv hx
    rintro w2 e' G2 ⟨z, c2, sm2, hz, hc2, hv2, hx2, rfl⟩
    have hn2 := hx2.next
    have hzl : (S ++ List.replicate z 0).length = S.length + z := by simp
    refine s_test ?_
    simp only [o_pure, o_nil, POp.ev, Opd.ev, gv, setD, Option.some.injEq, exists_eq_left', binV, ne_eq, not_true_eq_false, if_false, Vec.lenV hv2, hzl, Sl.lenV (SlI.ext hs hx2)]
    refine Test.split (fun hlt2 => ?_) (fun hlt2 => ?_)
    · have hzz : S.length + z < 5 := by have := of_decide_eq_true hlt2; omega
      obtain ⟨v', G3, b', t1, t2, t3, t4, t5⟩ := VecI.push (lim := lim) hv2 0 (by omega) (by omega)
      refine s_skip1 ?_
      simp +decide only [p_seq_normal]
      refine s_block1 ?_
      refine s_reg1 ?_
      simp only [o_pure, o_eff, o_nil, POp.ev, Opd.ev, EOp.ev, gv, setD, List.set, List.map, Option.some.injEq, exists_eq_left', bslice1, t1]
      simp +decide only [p_seq_normal, p_block_normal]
      refine Round.mk (w2 - 1) (by omega) ⟨z + 1, b', v', by omega, by rcases t3 with rfl | t3 <;> omega, ?_, Chg.ext hx2 t5 (by omega), rfl⟩
      rw [List.replicate_succ', ← List.append_assoc]
      exact t2
    · have hzz : S.length + z = 5 := by have := of_decide_eq_false hlt2; omega
      refine s_exit1 ?_
      simp +decide only [p_seq_normal, p_seq_exit, p_block_exit, reduceIte]
      refine s_reg ?_
      simp only [o_pure, o_nil, POp.ev, Opd.ev, gv, setD, List.set, Option.some.injEq, exists_eq_left']
      refine s_ret1 ?_
      simp +decide only [p_fin_ret, resV, resOne, gv, Option.some.injEq, exists_eq_left']
      refine ⟨?_, hx2⟩
      have eo : S ++ List.replicate z 0 = over f lo hi (2 ^ k) := by
        unfold over
        rw [hn]
        refine list_of (by rw [hzl, hzz]) fun m hm => ?_
        rw [pad_get, hSg, hn]
      rw [← eo]
      exact hv2.sl
end Go.Proofs.YtldpdjpchcoigaaGreat
