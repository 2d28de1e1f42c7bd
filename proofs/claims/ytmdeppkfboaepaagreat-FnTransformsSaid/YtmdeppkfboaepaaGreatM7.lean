/- Parts of the proof of a statement of this seat: contracts of functions that the law calls, or the law's own row; no condition. -/
import Derived.Test.YtmdeppkfboaepaaGreatM6
/- Signs at points of whole numbers, the program; no condition beyond stated ranges. -/
namespace Go.Proofs.YtmdeppkfboaepaaGreat
open Go.Ab Ints
set_option linter.unusedSimpArgs false
set_option linter.unusedVariables false
theorem isPlaces0_ok (lim : Nat) (H : AHeap) : ACalls Tryz.prog lim n_impl_isPlaces [.int .i64 0] H fun v H' => v = .bool true ∧ H' = H := by
 refine is_impl_isPlaces.go rfl ?_
 unfold c_impl_isPlaces
 refine s_reg ?_
 simp only [o_pure, o_nil, POp.ev, Opd.ev, env0, gu, setD, List.set, xsj, xel]
 refine s_reg ?_
 simp only [o_pure, o_callF, POp.ev, Opd.ev, gv, setD, List.map, xsj, xel]
 refine (inside_ok _ _ _ _ _).eq ?_
 simp only [o_cont, o_pure, o_nil, POp.ev, Opd.ev, gv, setD, List.set, xsj, xel]
 refine s_ret1 ?_
 simp +decide only [pfr, resV, resOne, gv, xsj, xel]
 simp
theorem isDyadic0_ok (lim : Nat) (n : Int) (H : AHeap) (hn : n.natAbs ≤ 1000000) : ACalls Tryz.prog lim n_impl_isDyadic [.agg #[vi n, vi 0]] H fun v H' => v = .bool true ∧ Ext H H' := by
 refine is_impl_isDyadic.go rfl ?_
 unfold c_impl_isDyadic
 refine s_reg ?_
 simp only [o_pure, o_eff, o_nil, POp.ev, Opd.ev, EOp.ev, env0, gu, gv, setD, List.set, xms, xsj, xel, boxH, cellsV]
 have hB := BoxP.mk' H n
 generalize H.alloc [vi n, vi 0] = H1 at hB ⊢
 generalize H.next = q at hB ⊢
 have i2 : (decide (-1099511627776 ≤ n) && decide (n ≤ 1099511627776)) = true := by simp; omega
 have d0 : ((0 : Int) == 0) = true := by decide
 refine s_reg ?_
 simp only [o_pure, o_callF, POp.ev, Opd.ev, gv, setD, List.map, xsj, xel, load1V, fadV, Nat.zero_add, hB.c1]
 refine (isPlaces0_ok _ _).eq ?_
 simp only [o_cont, o_pure, o_callF, o_guard, gk_tt, POp.ev, Opd.ev, gv, setD, List.map, xsj, xel, load1V, fadV, Nat.zero_add, hB.c0]
 refine (inside_ok _ _ _ _ _).eq ?_
 rw [i2]
 simp only [o_cont, o_pure, o_guard, gk_tt, gk_tf, o_nil, POp.ev, Opd.ev, gv, setD, List.set, xsj, xel, pickV, binV, load1V, fadV, ne_eq, xnt, if_false, beq_self_eq_true, Nat.zero_add, hB.c1]
 refine s_ret1 ?_
 simp +decide only [pfr, resV, resOne, gv, xsj, xel]
 exact ⟨trivial, hB.ext⟩
theorem isBoxNumber_ok (lim : Nat) (n : Int) (H : AHeap) (hn : n.natAbs ≤ 1000000) : ACalls Tryz.prog lim n_impl_isBoxNumber [.agg #[vi n, vi 0]] H fun v H' => v = .bool (inP n) ∧ Ext H H' := by
 refine is_impl_isBoxNumber.go rfl ?_
 unfold c_impl_isBoxNumber
 refine s_reg ?_
 simp only [o_pure, o_eff, o_nil, POp.ev, Opd.ev, EOp.ev, env0, gu, gv, setD, List.set, xms, xsj, xel, boxH, cellsV]
 have hB := BoxP.mk' H n
 generalize H.alloc [vi n, vi 0] = H1 at hB ⊢
 generalize H.next = q at hB ⊢
 have d9 : decide ((0 : Int) ≤ 9) = true := by decide
 have d1 : ¬ ((0 : Int) < 0) := by decide
 have w1 : IntKind.i64.wrap (-8 * 2 ^ min (0 : Int).toNat IntKind.i64.bits) = -8 := by decide
 have w2 : IntKind.i64.wrap (8 * 2 ^ min (0 : Int).toNat IntKind.i64.bits) = 8 := by decide
 refine s_reg ?_
 simp only [o_pure, o_callF, POp.ev, Opd.ev, gv, setD, List.map, xsj, xel, hB.all]
 refine (isDyadic0_ok lim n H1 hn).mono ?_
 rintro _ H2 ⟨rfl, hx2⟩
 have hB2 := hB.mono hx2
 simp only [o_cont, o_pure, o_callF, o_guard, gk_tt, POp.ev, Opd.ev, gv, setD, List.map, xsj, xel, pickV, binV, load1V, fadV, ne_eq, xnt, if_false, Nat.zero_add, hB2.c1, hB2.c0, d9, d1, w1, w2]
 refine (inside_ok _ _ _ _ _).eq ?_
 simp only [o_cont, o_pure, o_nil, POp.ev, Opd.ev, gv, setD, List.set, xsj, xel, pickV]
 refine s_ret1 ?_
 simp +decide only [pfr, resV, resOne, gv, xsj, xel]
 exact ⟨rfl, hB2.ext⟩
theorem isBoxPoint1_ok (lim : Nat) (n : Int) (H : AHeap) (hn : n.natAbs ≤ 1000000) : ACalls Tryz.prog lim n_impl_isBoxPoint_1 [.agg #[vi n, vi 0]] H fun v H' => v = .bool (!inP n) ∧ Ext H H' := by
 refine is_impl_isBoxPoint_1.go rfl ?_
 unfold c_impl_isBoxPoint_1
 refine s_reg ?_
 simp only [o_pure, o_eff, o_nil, POp.ev, Opd.ev, EOp.ev, env0, gu, gv, setD, List.set, xms, xsj, xel, boxH, cellsV]
 have hB := BoxP.mk' H n
 generalize H.alloc [vi n, vi 0] = H1 at hB ⊢
 generalize H.next = q at hB ⊢
 refine s_reg ?_
 simp only [o_pure, o_callF, POp.ev, Opd.ev, gv, setD, List.map, xsj, xel, hB.all]
 refine (isBoxNumber_ok lim n H1 hn).mono ?_
 rintro _ H2 ⟨rfl, hx2⟩
 simp only [o_cont, o_pure, o_nil, POp.ev, Opd.ev, gv, setD, List.set, xsj, xel, unV]
 refine s_ret1 ?_
 simp +decide only [pfr, resV, resOne, gv, xsj, xel]
 exact ⟨trivial, hB.ext.trans hx2⟩
abbrev ptF : Value := .func (.func n_impl_isBoxPoint_1) #[] #[]
theorem indexP_ok (lim : Nat) (s : Value) (l : List Int) (H : AHeap) (hs : SlP H s l) (hn : l.length ≤ 1000000) (hb : ∀ n ∈ l, n.natAbs ≤ 1000000) :
   ACalls Tryz.prog lim n_slices_IndexFunc_S_impl_Dyadic_impl_Dyadic [s, ptF] H fun v H' => (∃ r : Int, v = .int .i64 r ∧ decide (r ≥ 0) = !l.all inP) ∧ Ext H H' := by
 refine is_slices_IndexFunc_S_impl_Dyadic_impl_Dyadic.go rfl ?_
 unfold c_slices_IndexFunc_S_impl_Dyadic_impl_Dyadic
 refine s_reg ?_
 simp only [o_pure, o_nil, POp.ev, Opd.ev, env0, gu, setD, List.set, xsj, xel]
 refine s_assoc (s_reg ?_)
 simp only [o_pure, o_nil, POp.ev, Opd.ev, gv, setD, List.set, xsj, xel, hs.lenV]
 refine s_block ?_
 refine s_loop1 (fun k e' H' => ∃ (i : Nat) (x : Value), i + k = l.length ∧ l.all inP = (l.drop i).all inP ∧ Ext H H' ∧ e' = [s, ptF, .int .i64 0, x, .int .i64 l.length, .int .i64 i]) l.length ⟨0, _, by omega, rfl, Ext.refl _, rfl⟩ ?_
 rintro k e' H' ⟨i, x, hik, hall, hx, rfl⟩
 refine s_test ?_
 simp only [o_pure, o_nil, POp.ev, Opd.ev, gv, setD, xsj, xel, binV, ne_eq, xnt, if_false]
 refine Test.split (fun hlt => ?_) (fun hlt => ?_)
 · have hlt' : i < l.length := by simpa using hlt
   obtain ⟨b1, o1, h1, a1⟩ := (hs.ext hx).at hlt'
   have hbi := hb _ (List.getElem_mem hlt')
   rw [List.drop_eq_getElem_cons hlt', List.all_cons] at hall
   generalize l[i] = n at a1 hbi hall
   refine s_skip1 ?_
   simp +decide only [pqn]
   refine s_block ?_
   refine s_reg ?_
   simp only [o_pure, o_nil, POp.ev, Opd.ev, gv, setD, List.set, xsj, xel]
   refine s_test1_I (!inP n) (Ext H) ?_ (fun H2 hx2 hg => ?_) (fun H2 hx2 hg => ?_)
   · simp only [o_callT, callV_fn, o_pure, POp.ev, Opd.ev, gv, setD, List.map, xsj, xel, h1, a1.all]
     refine (isBoxPoint1_ok _ _ _ hbi).mono ?_
     rintro _ H2 ⟨rfl, hx2⟩
     simp only [o_cont, o_nil, gv, setD]
     exact ⟨trivial, trivial, hx.trans hx2⟩
   · refine s_reg ?_
     simp only [o_pure, o_nil, POp.ev, Opd.ev, gv, setD, List.set, xsj, xel]
     refine s_ret1 ?_
     simp +decide only [pqr, pbr, pfr, resV, resOne, gv, xsj, xel]
     have hg' : inP n = false := (Bool.not_eq_true' _).mp hg
     rw [hg', Bool.false_and] at hall
     refine ⟨⟨_, rfl, ?_⟩, hx2⟩
     rw [hall]
     simp
   · refine s_skip1 ?_
     simp +decide only [pqn, pbn]
     refine s_reg1 ?_
     simp only [o_pure, o_nil, POp.ev, Opd.ev, gv, setD, List.set, xsj, xel, binV, ne_eq, xnt, if_false, add1 (i := i) (by omega)]
     simp +decide only [pqn]
     have hg' : inP n = true := (Bool.not_eq_false' _).mp hg
     rw [hg', Bool.true_and] at hall
     exact Round.mk (k - 1) (by omega) ⟨i + 1, _, by omega, hall, hx2, rfl⟩
 · have hi : i = l.length := by simp at hlt; omega
   subst hi
   rw [List.drop_of_length_le (Nat.le_refl _)] at hall
   refine s_exit1 ?_
   simp +decide only [pqn, pqe, pbe, reduceIte]
   refine s_reg ?_
   simp only [o_pure, o_nil, POp.ev, Opd.ev, setD, List.set, xsj, xel]
   refine s_ret1 ?_
   simp +decide only [pfr, resV, resOne, gv, xsj, xel]
   refine ⟨⟨_, rfl, ?_⟩, hx⟩
   rw [hall]
   decide
theorem containsP_ok (lim : Nat) (s : Value) (l : List Int) (H : AHeap) (hs : SlP H s l) (hn : l.length ≤ 1000000) (hb : ∀ n ∈ l, n.natAbs ≤ 1000000) :
   ACalls Tryz.prog lim n_slices_ContainsFunc_S_impl_Dyadic_impl_Dyadic [s, ptF] H fun v H' => v = .bool (!l.all inP) ∧ Ext H H' := by
 refine is_slices_ContainsFunc_S_impl_Dyadic_impl_Dyadic.go rfl ?_
 unfold c_slices_ContainsFunc_S_impl_Dyadic_impl_Dyadic
 refine s_reg ?_
 simp only [o_pure, o_nil, POp.ev, Opd.ev, env0, gu, setD, List.set, xsj, xel]
 refine s_reg ?_
 simp only [o_pure, o_callF, POp.ev, Opd.ev, gv, setD, List.map, xsj, xel]
 refine (indexP_ok lim s l H hs hn hb).mono ?_
 rintro _ H2 ⟨⟨r, rfl, hr⟩, hx2⟩
 simp only [o_cont, o_pure, o_nil, POp.ev, Opd.ev, gv, setD, List.set, xsj, xel, binV, ne_eq, xnt, if_false, hr]
 refine s_ret1 ?_
 simp +decide only [pfr, resV, resOne, gv, xsj, xel]
 exact ⟨trivial, hx2⟩
theorem isBoxPoint_ok (lim : Nat) (s : Value) (l : List Int) (H : AHeap) (hs : SlP H s l) (hn : l.length ≤ 1000000) (hb : ∀ n ∈ l, n.natAbs ≤ 1000000) :
   ACalls Tryz.prog lim n_impl_isBoxPoint [s] H fun v H' => v = .bool (ptB l) ∧ Ext H H' := by
 refine is_impl_isBoxPoint.go rfl ?_
 unfold c_impl_isBoxPoint
 refine s_reg ?_
 simp only [o_pure, o_nil, POp.ev, Opd.ev, env0, gu, setD, List.set, xsj, xel]
 refine s_reg ?_
 simp only [o_pure, o_callF, POp.ev, Opd.ev, gv, setD, List.map, xsj, xel, hs.lenV]
 refine (inside_ok _ _ _ _ _).eq ?_
 unfold ptB
 cases hc : (decide (1 ≤ (l.length : Int)) && decide ((l.length : Int) ≤ 3))
 · simp only [o_cont, o_pure, o_guard, gk_ft, o_nil, POp.ev, Opd.ev, gv, setD, List.set, xsj, xel, pickV]
   refine s_ret1 ?_
   simp +decide only [pfr, resV, resOne, gv, xsj, xel]
   exact ⟨by simp, Ext.refl _⟩
 · simp only [o_cont, o_pure, o_callF, o_guard, gk_tt, POp.ev, Opd.ev, gv, setD, List.map, xsj, xel]
   refine (containsP_ok lim s l H hs hn hb).mono ?_
   rintro _ H2 ⟨rfl, hx2⟩
   simp only [o_cont, o_pure, o_guard, gk_tt, o_nil, POp.ev, Opd.ev, gv, setD, List.set, xsj, xel, pickV, unV]
   refine s_ret1 ?_
   simp +decide only [pfr, resV, resOne, gv, xsj, xel]
   exact ⟨by simp, hx2⟩
theorem prodTo_512 (l : List Int) (t : Tm) : ∀ k, prodTo (l.map (· * 512)) t k = prodTo l t k * 512 ^ sumE t k
 | 0 => by simp [prodTo, sumE]
 | k + 1 => by
   have e : (l.map (· * 512)).getD k 0 = l.getD k 0 * 512 := by
     rw [List.getD_eq_getElem?_getD, List.getD_eq_getElem?_getD, List.getElem?_map]
     cases l[k]? <;> simp
   rw [prodTo, prodTo, sumE, prodTo_512 l t k, e, Int.mul_pow, Int.pow_add]
   simp only [Int.mul_assoc, Int.mul_comm, Int.mul_left_comm]
def Lacks (n : Nat) (t : Tm) : Prop := ∀ u : Nat, n ≤ u → u < 3 → pw t u = 0
theorem prodTo_all {l : List Int} {t : Tm} {n : Nat} (h : Lacks n t) : ∀ d, n + d ≤ 3 → prodTo l t (n + d) = prodTo l t n
 | 0, _ => rfl
 | d + 1, hd => by
   rw [← Nat.add_assoc, prodTo, h (n + d) (by omega) (by omega), prodTo_all h d (by omega)]
   simp
theorem sumE_three {t : Tm} (h : okTm t = true) : ((sumE t 3 : Nat) : Int) = t.x + t.y + t.z := by
 have hb := (okTm_iff t).1 h
 simp [sumE, pw]
 omega
theorem lacks_of {n : Nat} {t : Tm} (ht : okTm t = true) (h : expF n t 0 = true) : Lacks n t := by
 have hb := (okTm_iff t).1 ht
 intro u h1 h2
 simp only [expF, Bool.and_eq_true, Bool.or_eq_true, Bool.not_eq_true', decide_eq_true_eq, Bool.and_eq_false_iff, decide_eq_false_iff_not] at h
 unfold pw
 rcases (by omega : u = 0 ∨ u = 1 ∨ u = 2) with rfl | rfl | rfl
 · rw [if_pos (by decide)]; omega
 · rw [if_neg (by decide), if_pos (by decide)]; omega
 · rw [if_neg (by decide), if_neg (by decide)]; omega
theorem scale_eq {l : List Int} {t : Tm} (hl : l.length ≤ 3) (ht : okTm t = true) (h : Lacks l.length t) {d : Nat} (hd : (d : Int) = 4 - (t.x + t.y + t.z)) :
   t.c * 2 ^ (9 * d) * prodTo (l.map (· * 512)) t 3 = 2 ^ 36 * (t.c * prodTo l t l.length) := by
 have e3 : prodTo l t 3 = prodTo l t l.length := by
   have := prodTo_all (l := l) h (3 - l.length) (by omega)
   rwa [show l.length + (3 - l.length) = 3 by omega] at this
 have hs := sumE_three ht
 have e4 : (2 : Int) ^ (9 * d) * 512 ^ sumE t 3 = 2 ^ 36 := by
   rw [show (512 : Int) = 2 ^ 9 from rfl, ← Int.pow_mul, ← Int.pow_add, show 9 * d + 9 * sumE t 3 = 36 by omega]
 rw [prodTo_512, e3]
 have : t.c * 2 ^ (9 * d) * (prodTo l t l.length * 512 ^ sumE t 3) = (2 ^ (9 * d) * 512 ^ sumE t 3) * (t.c * prodTo l t l.length) := by
   simp only [Int.mul_assoc, Int.mul_comm, Int.mul_left_comm]
 rw [this, e4]
set_option maxHeartbeats 1000000 in
theorem scaledAt_ok (lim : Nat) (s pt : Value) (p : List Tm) (l : List Int) (H : AHeap) (hl : lim ≤ H.next) (hs : SlT H s p) (hp : SlP H pt l) (hn : p.length ≤ 1000000) (hln : l.length ≤ 3) (hok : ∀ t ∈ p, okTm t = true ∧ Lacks l.length t) :
   ACalls Tryz.prog lim n_impl_scaledAt [s, pt] H fun v H' => (∃ r, v = .int .i64 r ∧ inR r ∧ cg r (2 ^ 36 * vz l p)) ∧ Ext H H' := by
 refine is_impl_scaledAt.go rfl ?_
 unfold c_impl_scaledAt
 refine s_reg ?_
 simp only [o_pure, o_nil, POp.ev, Opd.ev, env0, gu, setD, List.set, xsj, xel]
 refine s_reg ?_
 simp only [o_pure, o_nil, POp.ev, Opd.ev, setD, List.set, xsj, xel]
 refine s_assoc (s_reg ?_)
 simp only [o_pure, o_nil, POp.ev, Opd.ev, gv, setD, List.set, xsj, xel, hs.lenV]
 refine s_block ?_
 refine s_loop1 (fun k e' H' => ∃ (j : Nat) (r : Int) (x4 x5 x6 x7 x11 x12 x13 x14 : Value), j + k = p.length ∧ inR r ∧ cg r (2 ^ 36 * vz l (p.take j)) ∧ Ext H H' ∧ e' = [s, pt, .int .i64 0, .int .i64 r, x4, x5, x6, x7, s, .int .i64 p.length, .int .i64 j, x11, x12, x13, x14]) p.length ⟨0, 0, _, _, _, _, _, _, _, _, by omega, by unfold inR; omega, cg.of_eq (by simp [vz, ev]), Ext.refl _, rfl⟩ ?_
 rintro k e' H' ⟨j, r, x4, x5, x6, x7, x11, x12, x13, x14, hjk, hr, hcg, hx, rfl⟩
 have hnx := hx.next
 refine s_test ?_
 simp only [o_pure, o_nil, POp.ev, Opd.ev, gv, setD, xsj, xel, binV, ne_eq, xnt, if_false]
 refine Test.split (fun hlt => ?_) (fun hlt => ?_)
 · have hlt' : j < p.length := by simpa using hlt
   obtain ⟨b1, o1, h1, hat⟩ := (hs.ext hx).at hlt'
   have htake := ev_take (φ := fun t => prodTo l t l.length) hlt'
   obtain ⟨hokt, hlack⟩ := hok _ (List.getElem_mem hlt')
   generalize p[j] = t at hat htake hokt hlack
   have hokb := (okTm_iff t).1 hokt
   refine s_skip1 ?_
   simp +decide only [pqn]
   refine s_block ?_
   refine s_reg ?_
   simp only [o_pure, o_eff, o_nil, POp.ev, Opd.ev, EOp.ev, gv, setD, List.set, xsj, xel, h1, hat.all, store4_new (lim := lim) (H := H') (by omega)]
   have hB := BoxT.mk' H' t
   generalize H'.alloc (tc t) = H1 at hB ⊢
   generalize H'.next = q at hB hnx ⊢
   have hx1 := hx.trans hB.ext
   have hnx1 := hx1.next
   obtain ⟨d, hd⟩ : ∃ d : Nat, (d : Int) = 4 - (t.x + t.y + t.z) := ⟨(4 - (t.x + t.y + t.z)).toNat, by omega⟩
   refine s_reg ?_
   simp only [o_pure, o_callN, POp.ev, Opd.ev, gv, setD, List.map, xsj, xel, load1V, fadV, Nat.zero_add, hB.c0, hB.all]
   refine (degree_ok H1.next t H1 (by omega) (by omega) (by omega)).use ?_
   rintro _ H2 ⟨rfl, hx2⟩ _
   have hB2 := hB.mono hx2
   have hnx2 := hx2.next
   have w1 : IntKind.i64.wrap (4 - (t.x + t.y + t.z)) = (d : Int) := by rw [← hd]; exact wr_nat (by omega)
   have w2 : IntKind.i64.wrap (9 * (d : Int)) = ((9 * d : Nat) : Int) := by rw [show (9 : Int) * (d : Int) = ((9 * d : Nat) : Int) by omega]; exact wr_nat (by omega)
   have w3 : ¬ ((((9 * d : Nat) : Int)) < 0) := by omega
   have w4 : min ((9 * d : Nat) : Int).toNat IntKind.i64.bits = 9 * d := by
     rw [Int.toNat_natCast, show IntKind.i64.bits = 64 from rfl]
     omega
   simp only [o_cont, o_pure, o_nil, POp.ev, Opd.ev, gv, setD, List.set, xsj, xel, binV, ne_eq, xnt, if_false, w1, w2, w3, w4]
   refine s_assoc (s_reg ?_)
   simp only [o_pure, o_callF, POp.ev, Opd.ev, gv, setD, List.map, xsj, xel, hB2.all]
   refine (exponents_ok lim _ _ (by omega)).mono ?_
   rintro _ H3 ⟨rfl, hx3⟩
   simp only [o_cont, o_pure, o_nil, POp.ev, Opd.ev, setD, List.set, xsj, xel]
   have hx03 := hx1.trans (hx2.trans hx3)
   have hnx3 := hx03.next
   refine s_block ?_
   refine s_loop1 (fun k2 e' H'' => H'' = H3 ∧ ∃ (u : Nat) (w : Int) (x6 x7 x13 x14 : Value), u + k2 = 3 ∧ inR w ∧ cg w (t.c * 2 ^ (9 * d) * prodTo (l.map (· * 512)) t u) ∧ e' = [s, pt, .int .i64 0, .int .i64 r, .pointer (some ⟨q, 0, none⟩), .int .i64 w, x6, x7, s, .int .i64 p.length, .int .i64 j, expV t, .int .i64 u, x13, x14]) 3 ⟨rfl, 0, W (t.c * 2 ^ (9 * d)), _, _, _, _, by omega, W_in _, (cg_W _).trans (cg.of_eq (by simp [prodTo])), rfl⟩ ?_
   rintro k2 e' H4 ⟨rfl, u, w, x6, x7, x13, x14, huk, hw, hcw, rfl⟩
   refine s_test ?_
   simp only [o_pure, o_nil, POp.ev, Opd.ev, gv, setD, xsj, xel, binV, ne_eq, xnt, if_false]
   refine Test.split (fun hlt3 => ?_) (fun hlt3 => ?_)
   · have hu : u < 3 := by simp at hlt3; omega
     have hpos := pw_small hokt u
     have hex := ex_pw t u hu
     refine s_skip1 ?_
     simp +decide only [pqn]
     refine s_block ?_
     refine s_reg ?_
     simp only [o_pure, o_nil, POp.ev, Opd.ev, gv, setD, List.set, xsj, xel, aix_exp hu]
     refine s_reg ?_
     simp only [o_pure, o_nil, POp.ev, Opd.ev, gv, setD, List.set, xsj, xel]
     refine s_block1 ?_
     refine s_loop1 (fun k3 e' H'' => H'' = H4 ∧ ∃ (z : Int) (m : Nat), m + k3 = (pw t u).toNat ∧ inR z ∧ cg z (t.c * 2 ^ (9 * d) * prodTo (l.map (· * 512)) t u * (l.getD u 0 * 512) ^ m) ∧ e' = [s, pt, .int .i64 0, .int .i64 r, .pointer (some ⟨q, 0, none⟩), .int .i64 z, .int .i64 u, .int .i64 (ex t u), s, .int .i64 p.length, .int .i64 j, expV t, .int .i64 u, .int .i64 (ex t u), .int .i64 m]) (pw t u).toNat ⟨rfl, w, 0, by omega, hw, by simpa using hcw, rfl⟩ ?_
     rintro k3 e' H5 ⟨rfl, z, m, hm, hz, hcz, rfl⟩
     refine s_test ?_
     simp only [o_pure, o_nil, POp.ev, Opd.ev, gv, setD, xsj, xel, binV, ne_eq, xnt, if_false]
     refine Test.split (fun hlt4 => ?_) (fun hlt4 => ?_)
     · have hlt4' : (m : Int) < ex t u := of_decide_eq_true hlt4
       have hul : u < l.length := by
         rcases Nat.lt_or_ge u l.length with h | h
         · exact h
         · have := hlack u h hu
           omega
       obtain ⟨b2, o2, h2, hat2⟩ := (hp.ext hx03).at hul
       have hgd : l.getD u 0 = l[u] := by rw [List.getD_eq_getElem?_getD, List.getElem?_eq_getElem hul]; rfl
       generalize l[u] = n at hat2 hgd
       have v1 : IntKind.i64.wrap (9 - 0) = 9 := by decide
       have v2 : ¬ ((9 : Int) < 0) := by decide
       have v3 : min (9 : Int).toNat IntKind.i64.bits = 9 := by decide
       refine s_skip1 ?_
       simp +decide only [pqn]
       refine s_block ?_
       refine s_reg1 ?_
       simp only [o_pure, o_nil, POp.ev, Opd.ev, gv, setD, List.set, xsj, xel, binV, load1V, fadV, ne_eq, xnt, if_false, h2, Nat.add_zero, hat2.n, hat2.k, v1, v2, v3]
       simp +decide only [pqn, pbn]
       refine s_reg1 ?_
       simp only [o_pure, o_nil, POp.ev, Opd.ev, gv, setD, List.set, xsj, xel, binV, ne_eq, xnt, if_false, add1 (i := m) (by omega)]
       simp +decide only [pqn]
       refine Round.mk (k3 - 1) (by omega) ⟨rfl, _, m + 1, by omega, W_in _, ?_, rfl⟩
       refine (cg_W _).trans ((hcz.mul (cg_W _)).trans (cg.of_eq ?_))
       have e9 : (2 : Int) ^ 9 = 512 := by decide
       rw [e9, hgd, Int.pow_succ]
       simp only [Int.mul_assoc]
     · have hge := of_decide_eq_false hlt4
       have hme : m = (pw t u).toNat := by omega
       subst hme
       refine s_exit1 ?_
       simp +decide only [pqn, pqe, pbn, pbe, reduceIte]
       refine s_reg1 ?_
       simp only [o_pure, o_nil, POp.ev, Opd.ev, gv, setD, List.set, xsj, xel, binV, ne_eq, xnt, if_false, add1 (i := u) (by omega)]
       simp +decide only [pqn]
       refine Round.mk (k2 - 1) (by omega) ⟨rfl, u + 1, z, _, _, _, _, by omega, hz, ?_, rfl⟩
       refine hcz.trans (cg.of_eq ?_)
       have e : (l.map (· * 512)).getD u 0 = l.getD u 0 * 512 := by
         rw [List.getD_eq_getElem?_getD, List.getD_eq_getElem?_getD, List.getElem?_map]
         cases l[u]? <;> simp
       rw [prodTo, e, Int.mul_assoc]
   have hu3 : u = 3 := by simp at hlt3; omega
   subst hu3
   refine s_exit1 ?_
   simp +decide only [pqn, pqe, pbe, reduceIte]
   refine s_reg1 ?_
   simp only [o_pure, o_nil, POp.ev, Opd.ev, gv, setD, List.set, xsj, xel, binV, ne_eq, xnt, if_false]
   simp +decide only [pqn, pbn]
   refine s_reg1 ?_
   simp only [o_pure, o_nil, POp.ev, Opd.ev, gv, setD, List.set, xsj, xel, binV, ne_eq, xnt, if_false, add1 (i := j) (by omega)]
   simp +decide only [pqn]
   refine Round.mk (k - 1) (by omega) ⟨j + 1, W (r + w), _, _, _, _, _, _, _, _, by omega, W_in _, ?_, hx03, rfl⟩
   refine (cg_W _).trans ((hcg.add hcw).trans (cg.of_eq ?_))
   rw [scale_eq hln hokt hlack hd, ← Int.mul_add]
   unfold vz
   rw [htake]
 · have hj : j = p.length := by simp at hlt; omega
   subst hj
   refine s_exit1 ?_
   simp +decide only [pqn, pqe, pbe, reduceIte]
   refine s_reg ?_
   simp only [o_pure, o_nil, POp.ev, Opd.ev, gv, setD, List.set, xsj, xel]
   refine s_ret1 ?_
   simp +decide only [pfr, resV, resOne, gv, xsj, xel]
   rw [List.take_length] at hcg
   exact ⟨⟨r, rfl, hr, hcg⟩, hx⟩
theorem cmp3_sgn (a : Int) : cmp3 (2 ^ 36 * a) 0 = sgn3 a := by
 unfold cmp3 sgn3
 have : (2 : Int) ^ 36 = 68719476736 := by decide
 rw [this]
 rcases Int.lt_trichotomy a 0 with h | h | h
 · rw [if_pos (by omega), if_neg (by omega), if_pos h]
 · subst h; simp
 · rw [if_neg (by omega), if_pos (by omega), if_pos h]
theorem sys_lacks {ss : List (List Tm)} (h : goodSS ss = true) : ∀ p ∈ ss, p.length ≤ 20 ∧ ∀ t ∈ p, okTm t = true ∧ Lacks ss.length t := by
 obtain ⟨h1, _⟩ := (goodSS_iff ss).1 h
 obtain ⟨_, _, hall⟩ := goodSS_all h
 intro p hp
 obtain ⟨k1, k2, _⟩ := hall p hp
 have hf := (h1 p hp).2
 rw [← need_from, needF_iff] at hf
 exact ⟨k1, fun t ht => ⟨(k2 t ht).1, lacks_of (k2 t ht).1 (hf t ht)⟩⟩
theorem scaled_eq {l : List Int} (h : ptB l = true) {p : List Tm} (hp : ∀ t ∈ p, okTm t = true) (hn : p.length ≤ 20) {r : Int} (hr : inR r) (hc : cg r (2 ^ 36 * vz l p)) : r = 2 ^ 36 * vz l p := by
 have := vz_small h hp hn
 have e : (2 : Int) ^ 36 = 68719476736 := by decide
 exact hc.eq hr (by rw [e]; unfold inR; omega)
theorem iSignsAt_ok (lim : Nat) (s pt : Value) (ss : List (List Tm)) (l : List Int) (H : AHeap) (hl : lim ≤ H.next) (hs : SlSS H s ss) (hp : SlP H pt l) (hn : ss.length ≤ 1000000) (hn2 : ∀ p ∈ ss, p.length ≤ 1000000) (hln : l.length ≤ 1000000) (hb : ∀ n ∈ l, n.natAbs ≤ 1000000) :
   ACalls Tryz.prog lim n_impl_SignsAt [s, pt] H fun v H' => ResI H' v (sgR ss l) ∧ Ext H H' := by
 refine is_impl_SignsAt.go rfl ?_
 unfold c_impl_SignsAt
 refine s_reg ?_
 simp only [o_pure, o_nil, POp.ev, Opd.ev, env0, gu, setD, List.set, xsj, xel]
 refine s_test_I (!(goodSS ss && ptB l && (l.length == ss.length))) (Ext H) ?_ (fun H1 hx hg => ?_) (fun H1 hx hg => ?_)
 · simp only [o_pure, o_callF, POp.ev, Opd.ev, gv, setD, List.map, xsj, xel]
   refine (isSystem_ok lim _ _ _ hl hs hn hn2).mono ?_
   rintro _ H1 ⟨rfl, hx⟩
   have hnx := hx.next
   cases h1 : goodSS ss
   · simp only [o_cont, o_pure, o_guard, gk_tf, o_nil, POp.ev, Opd.ev, gv, setD, xsj, xel, pickV, unV, Bool.not_false]
     exact ⟨by simp, trivial, hx⟩
   simp only [o_cont, o_pure, o_callF, o_guard, gk_ff, POp.ev, Opd.ev, gv, setD, List.map, xsj, xel, unV, Bool.not_true]
   refine (isBoxPoint_ok lim pt l H1 (hp.ext hx) hln hb).mono ?_
   rintro _ H2 ⟨rfl, hx2⟩
   cases h2 : ptB l
   · simp only [o_cont, o_pure, o_guard, gk_ff, gk_tf, o_nil, POp.ev, Opd.ev, gv, setD, xsj, xel, pickV, unV, Bool.not_false]
     exact ⟨by simp, trivial, hx.trans hx2⟩
   simp only [o_cont, o_pure, o_guard, gk_ff, o_nil, POp.ev, Opd.ev, gv, setD, xsj, xel, pickV, binV, unV, ne_eq, xnt, if_false, Bool.not_true, hp.lenV, hs.lenV]
   refine ⟨?_, trivial, hx.trans hx2⟩
   congr 1
   rw [Bool.eq_iff_iff]
   simp
   omega
 · refine s_reg ?_
   simp only [o_pure, o_nil, POp.ev, Opd.ev, setD, List.set, xsj, xel]
   refine s_ret1 ?_
   simp +decide only [pqr, pfr, resV, resOne, resL, gv, xsj, xel, Option.bind_some, xms]
   have hg' : (goodSS ss && ptB l && (l.length == ss.length)) = false := (Bool.not_eq_true' _).mp hg
   unfold sgR
   rw [hg']
   exact ⟨⟨_, rfl, SlI.nil' _⟩, hx⟩
 refine s_skip1 ?_
 simp +decide only [pqn]
 have hg' : (goodSS ss && ptB l && (l.length == ss.length)) = true := (Bool.not_eq_false' _).mp hg
 have hg2 := hg'
 simp only [Bool.and_eq_true, beq_iff_eq] at hg2
 obtain ⟨⟨hgd, hpt⟩, hlen⟩ := hg2
 have hlk := sys_lacks hgd
 obtain ⟨_, hlen3, _⟩ := goodSS_all hgd
 have hnx := hx.next
 have hs1 := hs.ext hx
 have hp1 := hp.ext hx
 refine s_reg ?_
 simp only [o_pure, o_nil, POp.ev, Opd.ev, setD, List.set, xsj, xel]
 refine s_assoc (s_reg ?_)
 simp only [o_pure, o_nil, POp.ev, Opd.ev, gv, setD, List.set, xsj, xel, hs1.lenV]
 refine s_block ?_
 refine s_loop1 (fun k e' H' => ∃ (i c : Nat) (v x5 : Value), i + k = ss.length ∧ VecI H' c v (sgns l (ss.take i)) ∧ H.next ≤ c ∧ Ext H H' ∧ e' = [s, pt, .slice none 0 0, .bool false, v, x5, s, .int .i64 ss.length, .int .i64 i]) ss.length ⟨0, H.next, _, _, by omega, Vec.nil _ _ _, Nat.le_refl _, hx, rfl⟩ ?_
 clear hnx hs1 hp1 hx
 rintro k e' H' ⟨i, c, v, x5, hik, hv, hc, hx, rfl⟩
 have hnx := hx.next
 refine s_test ?_
 simp only [o_pure, o_nil, POp.ev, Opd.ev, gv, setD, xsj, xel, binV, ne_eq, xnt, if_false]
 refine Test.split (fun hlt => ?_) (fun hlt => ?_)
 · have hlt' : i < ss.length := by simpa using hlt
   obtain ⟨b1, o1, s1, h1, h2, h3⟩ := (hs.ext hx).at hlt'
   obtain ⟨p20, pok⟩ := hlk _ (List.getElem_mem hlt')
   refine s_skip1 ?_
   simp +decide only [pqn]
   refine s_block ?_
   refine s_reg ?_
   simp only [o_pure, o_nil, POp.ev, Opd.ev, gv, setD, List.set, xsj, xel, load1V, h1, h2]
   refine s_reg1 ?_
   simp only [o_pure, o_callF, POp.ev, Opd.ev, gv, setD, List.map, xsj, xel]
   refine (scaledAt_ok lim s1 pt ss[i] l H' (by omega) h3 (hp.ext hx) (by omega) (by omega) (fun t ht => ⟨(pok t ht).1, by rw [hlen]; exact (pok t ht).2⟩)).mono ?_
   rintro _ H2 ⟨⟨r, rfl, hr, hcg⟩, hx2⟩
   have hre := scaled_eq hpt (fun t ht => (pok t ht).1) p20 hr hcg
   subst hre
   have hn2 := hx2.next
   obtain ⟨v', H3, c', g1, g2, g3, g4, g5⟩ := VecI.push (lim := lim) (Vec.ext hv hx2) (sgn3 (vz l ss[i])) (by omega) (by simp [sgns]; omega)
   simp only [o_cont, o_callF, Opd.ev, gv, setD, List.map]
   refine (compare_ok _ _ _ _).eq ?_
   rw [cmp3_sgn]
   simp only [o_cont, o_pure, o_eff, o_nil, POp.ev, Opd.ev, EOp.ev, gv, setD, List.set, List.map, xsj, xel, bslice1, g1]
   simp +decide only [pqn, pbn]
   refine s_reg1 ?_
   simp only [o_pure, o_nil, POp.ev, Opd.ev, gv, setD, List.set, xsj, xel, binV, ne_eq, xnt, if_false, add1 (i := i) (by omega)]
   simp +decide only [pqn]
   refine Round.mk (k - 1) (by omega) ⟨i + 1, c', v', _, by omega, ?_, ?_, Chg.ext (hx.trans hx2) g5 hc, rfl⟩
   · rw [sgns_take hlt']; exact g2
   · rcases g3 with rfl | g3 <;> omega
 · have hi : i = ss.length := by simp at hlt; omega
   subst hi
   refine s_exit1 ?_
   simp +decide only [pqn, pqe, pbe, reduceIte]
   refine s_reg ?_
   simp only [o_pure, o_nil, POp.ev, Opd.ev, gv, setD, List.set, xsj, xel]
   refine s_ret1 ?_
   simp +decide only [pfr, resV, resOne, resL, gv, xsj, xel, Option.bind_some, xms]
   rw [List.take_length] at hv
   unfold sgR
   rw [hg']
   exact ⟨⟨_, rfl, hv.sl⟩, hx⟩
theorem vz_mono {l : List Int} {p : List Tm} (hl : l.length ≤ 3) (hp : ∀ t ∈ p, okTm t = true ∧ Lacks l.length t) : vz l p = ev (mono (l.getD 0 0) (l.getD 1 0) (l.getD 2 0)) p := by
 refine ev_congr fun t ht => ?_
 obtain ⟨h1, h2⟩ := hp t ht
 have e3 := prodTo_all (l := l) h2 (3 - l.length) (by omega)
 rw [show l.length + (3 - l.length) = 3 by omega] at e3
 rw [← e3]
 simp [prodTo, mono, pw]
theorem getD_setI (l : List Int) (i k : Nat) (x : Int) (hi : i < l.length) : (l.set i x).getD k 0 = if k = i then x else l.getD k 0 := by
 rw [List.getD_eq_getElem?_getD, List.getD_eq_getElem?_getD, List.getElem?_set]
 by_cases h : i = k
 · subst h
   simp [hi]
 · rw [if_neg h, if_neg (fun e => h e.symm)]
def mov (l : List Int) (k : Nat) (n : Int) : List Int := l.set k (l.getD k 0 + n)
theorem sgns_moved {ss t : List (List Tm)} {l : List Int} {k n : Int} (h : shR ss k n = some t) (hl : ptB l = true) (hlen : l.length = ss.length) (hm : ptB (mov l k.toNat n) = true) : sgns (mov l k.toNat n) t = sgns l ss := by
 obtain ⟨h1, h2, h3, rfl, h5⟩ := shR_asked h
 have hk1 := sys_lacks h1
 have hk2 := sys_lacks h5
 have hml : (mov l k.toNat n).length = l.length := by simp [mov]
 obtain ⟨_, _, hl3⟩ := (ptB_iff l).1 hl
 have hkk : k.toNat < l.length := by omega
 unfold sgns
 rw [List.map_map]
 refine List.map_congr_left fun p hp => ?_
 show sgn3 (vz (mov l k.toNat n) (shP k n p)) = sgn3 (vz l p)
 obtain ⟨a1, a2⟩ := hk1 p hp
 obtain ⟨b1, b2⟩ := hk2 _ (List.mem_map_of_mem hp)
 rw [List.length_map] at b2
 have e1 := vz_mono (l := l) (p := p) hl3 (fun t ht => ⟨(a2 t ht).1, by rw [hlen]; exact (a2 t ht).2⟩)
 have e2 := vz_mono (l := mov l k.toNat n) (p := shP k n p) (by omega) (fun t ht => ⟨(b2 t ht).1, by rw [hml, hlen]; exact (b2 t ht).2⟩)
 have hc := ev_shift (k := k) (n := n) (x := l.getD 0 0) (y := l.getD 1 0) (z := l.getD 2 0) (p := p) (by omega) (fun t ht => pw_ok (a2 t ht).1 k)
 have g0 : (mov l k.toNat n).getD 0 0 = if k = 0 then l.getD 0 0 + n else l.getD 0 0 := by
   unfold mov
   rw [getD_setI _ _ _ _ hkk]
   by_cases h : k = 0
   · subst h; simp
   · rw [if_neg (by omega), if_neg h]
 have g1 : (mov l k.toNat n).getD 1 0 = if k = 1 then l.getD 1 0 + n else l.getD 1 0 := by
   unfold mov
   rw [getD_setI _ _ _ _ hkk]
   by_cases h : k = 1
   · subst h; simp
   · rw [if_neg (by omega), if_neg h]
 have g2 : (mov l k.toNat n).getD 2 0 = if k = 2 then l.getD 2 0 + n else l.getD 2 0 := by
   unfold mov
   rw [getD_setI _ _ _ _ hkk]
   by_cases h : k = 2
   · subst h; simp
   · rw [if_neg (by omega), if_neg h]
 rw [← g0, ← g1, ← g2, ← e1, ← e2] at hc
 have s1 := vz_small hl (p := p) (fun t ht => (a2 t ht).1) a1
 have s2 := vz_small hm (p := shP k n p) (fun t ht => (b2 t ht).1) b1
 rw [hc.eq (by unfold inR; omega) (by unfold inR; omega)]
def axis (n : Nat) (x : Int) : List Int := (List.replicate n 0).set 0 x
theorem axis_length (n : Nat) (x : Int) : (axis n x).length = n := by simp [axis]
theorem axis_small {n : Nat} {x : Int} (hx : -1 ≤ x ∧ x ≤ 1) : ∀ y ∈ axis n x, -1 ≤ y ∧ y ≤ 1 := by
 intro y hy
 rcases List.mem_or_eq_of_mem_set hy with h | h
 · have := (List.mem_replicate.1 h).2
   omega
 · omega
theorem axis_pt {n : Nat} {x : Int} (hx : -1 ≤ x ∧ x ≤ 1) (hn : 1 ≤ n ∧ n ≤ 3) : ptB (axis n x) = true := by
 rw [ptB_iff, axis_length]
 exact ⟨fun y hy => by have := axis_small hx y hy; omega, hn⟩
theorem mov_small {n : Nat} {x m : Int} {k : Nat} (hx : -1 ≤ x ∧ x ≤ 1) (hm : m.natAbs ≤ 1000) : ∀ y ∈ mov (axis n x) k m, y.natAbs ≤ 1001 := by
 intro y hy
 rcases List.mem_or_eq_of_mem_set hy with h | h
 · have := axis_small hx y h
   omega
 · have : -1 ≤ (axis n x).getD k 0 ∧ (axis n x).getD k 0 ≤ 1 := by
     rw [List.getD_eq_getElem?_getD]
     cases hg : (axis n x)[k]? with
     | none => simp
     | some z => exact axis_small hx z (List.mem_of_getElem? hg)
   omega
theorem sg_axis {ss t : List (List Tm)} {k n x : Int} (h : shR ss k n = some t) (hx : -1 ≤ x ∧ x ≤ 1) : sgR ss (axis ss.length x) = some (sgns (axis ss.length x) ss) := by
 obtain ⟨h1, _⟩ := shR_asked h
 obtain ⟨_, g1, g2⟩ := (goodSS_iff ss).1 h1
 unfold sgR
 rw [h1, axis_pt hx ⟨g1, g2⟩, axis_length]
 simp
theorem sg_moved {ss t : List (List Tm)} {k n x : Int} {r : List Int} (h : shR ss k n = some t) (hx : -1 ≤ x ∧ x ≤ 1) (hr : sgR t (mov (axis ss.length x) k.toNat n) = some r) : r = sgns (axis ss.length x) ss := by
 obtain ⟨h1, _⟩ := shR_asked h
 obtain ⟨_, g1, g2⟩ := (goodSS_iff ss).1 h1
 unfold sgR at hr
 split at hr
 · rename_i hg
   cases hr
   simp only [Bool.and_eq_true] at hg
   exact sgns_moved h (axis_pt hx ⟨g1, g2⟩) (axis_length _ _) hg.1.2
 · cases hr
open Go.Ab
theorem iMirror_ok (lim : Nat) (s : Value) (ss : List (List Tm)) (u : Int) (H : AHeap) (hl : lim ≤ H.next) (hs : SlSS H s ss) (hn : ss.length ≤ 1000000) (hn2 : ∀ p ∈ ss, p.length ≤ 1000000) :
   ACalls Tryz.prog lim n_impl_MirrorSystem [s, .int .i64 u] H fun v H' => ResSS H' H.next v (trR (-1) ss u) ∧ Ext H H' := by
 refine is_impl_MirrorSystem.go rfl ?_
 unfold c_impl_MirrorSystem trR
 have hsub : IntKind.i64.wrap ((ss.length : Int) - 1) = (ss.length : Int) - 1 := by rw [IntKind.wrap_i64]; omega
 refine s_reg ?_
 simp only [o_pure, o_eff, o_nil, POp.ev, Opd.ev, EOp.ev, env0, gu, gv, setD, List.set, xms, xsj, xel, boxH, cellsV]
 have hx1 := Ext.alloc H [.int .i64 u]
 have hq : (H.alloc [.int .i64 u]).blk H.next = some [.int .i64 u] := alloc_new _ _
 have hq1 : H.next < (H.alloc [.int .i64 u]).next := Nat.lt_succ_self _
 generalize H.alloc [.int .i64 u] = H1 at hx1 hq hq1 ⊢
 generalize hqe : H.next = q at hq hq1 hl ⊢
 have hs1 := hs.ext hx1
 refine s_test_I (!(goodSS ss && inU ss.length u)) (Ext H1) ?_ (fun H2 hx hg => ?_) (fun H2 hx hg => ?_)
 · simp only [o_pure, o_callF, POp.ev, Opd.ev, gv, setD, List.map, xsj, xel]
   refine (isSystem_ok lim _ _ _ (by omega) hs1 hn hn2).mono ?_
   rintro _ H2 ⟨rfl, hx⟩
   have hq2 : H2.blk q = some [.int .i64 u] := by rw [hx.blk _ hq1]; exact hq
   unfold inU
   cases hg : goodSS ss
   · simp only [o_cont, o_pure, o_guard, gk_tf, o_nil, POp.ev, Opd.ev, gv, setD, xsj, xel, pickV, unV, Bool.not_false]
     simp [hx]
   · simp only [o_cont, o_pure, o_callF, o_guard, gk_ff, POp.ev, Opd.ev, gv, setD, List.map, xsj, xel, binV, load1V, unV, ne_eq, xnt, if_false, Bool.not_true, xgz, cell_blk hq2, xgz, hs.lenV, hsub]
     refine (inside_ok _ _ _ _ _).eq ?_
     simp only [o_cont, o_pure, o_guard, gk_ff, o_nil, POp.ev, Opd.ev, gv, setD, xsj, xel, pickV, unV]
     simp [hx]
 · simp only [Bool.not_eq_true'] at hg
   refine s_reg ?_
   simp only [o_pure, o_nil, POp.ev, Opd.ev, setD, List.set, xsj, xel]
   refine s_ret1 ?_
   simp +decide only [pqr, pfr, resV, resOne, resL, gv, xsj, xel, Option.bind_some, xms]
   rw [hg]
   exact ⟨⟨.slice none 0 0, rfl, .inl ⟨rfl, rfl⟩⟩, hx1.trans hx⟩
 · simp only [Bool.not_eq_false'] at hg
   have hgi := hg
   simp only [inU, Bool.and_eq_true, decide_eq_true_eq] at hgi
   obtain ⟨hgd, hu1, hu2⟩ := hgi
   obtain ⟨_, hl3, hall⟩ := goodSS_all hgd
   obtain ⟨u, rfl⟩ : ∃ n : Nat, u = n := ⟨u.toNat, by omega⟩
   have hq2 : H2.blk q = some [.int .i64 (u : Int)] := by rw [hx.blk _ hq1]; exact hq
   have hnx := hx.next
   have hnx1 := hx1.next
   refine s_skip1 ?_
   simp +decide only [pqn]
   refine s_reg ?_
   simp only [o_pure, o_callF, POp.ev, Opd.ev, gv, setD, List.map, xsj, xel]
   refine (systemResult_ok lim s (.pointer (some ⟨q, 0, none⟩)) n_impl_MirrorSystem_1 (tr (-1) u) ss H2 (by omega) (hs1.ext hx) hn (fun p hp => (hall p hp).1) (fun p hp t ht => ((hall p hp).2.1 t ht).1)
     (fun p hp => ⟨sorted_tr _ _ (hall p hp).2.2, fun t ht => ?_⟩) (fun H' t hx' ht => ?_)).mono ?_
   · obtain ⟨t0, h0, rfl⟩ := List.mem_map.1 ht
     exact tr_ne ((hall p hp).2.1 t0 h0).2 (.inr rfl)
   · have hn' := hx'.next
     exact mirror1_ok lim t q u H' (by omega) (by omega) (by omega) (by rw [hx'.blk _ (by omega)]; exact hq2) ht
   rintro _ H3 ⟨⟨x, rfl, hO⟩, hx3⟩
   simp only [o_cont, o_pure, o_nil, POp.ev, Opd.ev, gv, setD, List.set, xsj, xel, extV, List.getElem?_toArray, xgz, xgs]
   refine s_ret1 ?_
   simp +decide only [pfr, resV, resOne, resL, gv, xsj, xel, Option.bind_some, xms]
   rw [hg, sysR_tr _ _ hgd] at *
   refine ⟨⟨x, rfl, hO.wide (by omega) (Nat.le_refl _)⟩, (hx1.trans hx).trans hx3⟩
theorem iStretch_ok (lim : Nat) (s : Value) (ss : List (List Tm)) (u : Int) (H : AHeap) (hl : lim ≤ H.next) (hs : SlSS H s ss) (hn : ss.length ≤ 1000000) (hn2 : ∀ p ∈ ss, p.length ≤ 1000000) :
   ACalls Tryz.prog lim n_impl_StretchSystem [s, .int .i64 u] H fun v H' => ResSS H' H.next v (trR 2 ss u) ∧ Ext H H' := by
 refine is_impl_StretchSystem.go rfl ?_
 unfold c_impl_StretchSystem trR
 have hsub : IntKind.i64.wrap ((ss.length : Int) - 1) = (ss.length : Int) - 1 := by rw [IntKind.wrap_i64]; omega
 refine s_reg ?_
 simp only [o_pure, o_eff, o_nil, POp.ev, Opd.ev, EOp.ev, env0, gu, gv, setD, List.set, xms, xsj, xel, boxH, cellsV]
 have hx1 := Ext.alloc H [.int .i64 u]
 have hq : (H.alloc [.int .i64 u]).blk H.next = some [.int .i64 u] := alloc_new _ _
 have hq1 : H.next < (H.alloc [.int .i64 u]).next := Nat.lt_succ_self _
 generalize H.alloc [.int .i64 u] = H1 at hx1 hq hq1 ⊢
 generalize hqe : H.next = q at hq hq1 hl ⊢
 have hs1 := hs.ext hx1
 refine s_test_I (!(goodSS ss && inU ss.length u)) (Ext H1) ?_ (fun H2 hx hg => ?_) (fun H2 hx hg => ?_)
 · simp only [o_pure, o_callF, POp.ev, Opd.ev, gv, setD, List.map, xsj, xel]
   refine (isSystem_ok lim _ _ _ (by omega) hs1 hn hn2).mono ?_
   rintro _ H2 ⟨rfl, hx⟩
   have hq2 : H2.blk q = some [.int .i64 u] := by rw [hx.blk _ hq1]; exact hq
   unfold inU
   cases hg : goodSS ss
   · simp only [o_cont, o_pure, o_guard, gk_tf, o_nil, POp.ev, Opd.ev, gv, setD, xsj, xel, pickV, unV, Bool.not_false]
     simp [hx]
   · simp only [o_cont, o_pure, o_callF, o_guard, gk_ff, POp.ev, Opd.ev, gv, setD, List.map, xsj, xel, binV, load1V, unV, ne_eq, xnt, if_false, Bool.not_true, xgz, cell_blk hq2, xgz, hs.lenV, hsub]
     refine (inside_ok _ _ _ _ _).eq ?_
     simp only [o_cont, o_pure, o_guard, gk_ff, o_nil, POp.ev, Opd.ev, gv, setD, xsj, xel, pickV, unV]
     simp [hx]
 · simp only [Bool.not_eq_true'] at hg
   refine s_reg ?_
   simp only [o_pure, o_nil, POp.ev, Opd.ev, setD, List.set, xsj, xel]
   refine s_ret1 ?_
   simp +decide only [pqr, pfr, resV, resOne, resL, gv, xsj, xel, Option.bind_some, xms]
   rw [hg]
   exact ⟨⟨.slice none 0 0, rfl, .inl ⟨rfl, rfl⟩⟩, hx1.trans hx⟩
 · simp only [Bool.not_eq_false'] at hg
   have hgi := hg
   simp only [inU, Bool.and_eq_true, decide_eq_true_eq] at hgi
   obtain ⟨hgd, hu1, hu2⟩ := hgi
   obtain ⟨_, hl3, hall⟩ := goodSS_all hgd
   obtain ⟨u, rfl⟩ : ∃ n : Nat, u = n := ⟨u.toNat, by omega⟩
   have hq2 : H2.blk q = some [.int .i64 (u : Int)] := by rw [hx.blk _ hq1]; exact hq
   have hnx := hx.next
   have hnx1 := hx1.next
   refine s_skip1 ?_
   simp +decide only [pqn]
   refine s_reg ?_
   simp only [o_pure, o_callF, POp.ev, Opd.ev, gv, setD, List.map, xsj, xel]
   refine (systemResult_ok lim s (.pointer (some ⟨q, 0, none⟩)) n_impl_StretchSystem_1 (tr 2 u) ss H2 (by omega) (hs1.ext hx) hn (fun p hp => (hall p hp).1) (fun p hp t ht => ((hall p hp).2.1 t ht).1)
     (fun p hp => ⟨sorted_tr _ _ (hall p hp).2.2, fun t ht => ?_⟩) (fun H' t hx' ht => ?_)).mono ?_
   · obtain ⟨t0, h0, rfl⟩ := List.mem_map.1 ht
     exact tr_ne ((hall p hp).2.1 t0 h0).2 (.inl rfl)
   · have hn' := hx'.next
     exact stretch1_ok lim t q u H' (by omega) (by omega) (by omega) (by rw [hx'.blk _ (by omega)]; exact hq2) ht
   rintro _ H3 ⟨⟨x, rfl, hO⟩, hx3⟩
   simp only [o_cont, o_pure, o_nil, POp.ev, Opd.ev, gv, setD, List.set, xsj, xel, extV, List.getElem?_toArray, xgz, xgs]
   refine s_ret1 ?_
   simp +decide only [pfr, resV, resOne, resL, gv, xsj, xel, Option.bind_some, xms]
   rw [hg, sysR_tr _ _ hgd] at *
   refine ⟨⟨x, rfl, hO.wide (by omega) (Nat.le_refl _)⟩, (hx1.trans hx).trans hx3⟩
theorem box_store {lim : Nat} {Hb G : AHeap} {q : Nat} {a b c d : Value} (u : Tm) (hx : Ext Hb G) (h1 : Hb.next ≤ q) (h2 : q < G.next) (h3 : G.blk q = some [a, b, c, d]) (hl : lim ≤ q) :
   storeH lim G 4 (.pointer (some ⟨q, 0, none⟩)) (tv u) = some (undef, G.put q (tc u)) ∧ BoxT Hb (G.put q (tc u)) q u :=
 ⟨store4 hl h3, Chg.ext hx (Chg.put _ _ _) h1, h1, h2, put_same _ _ _⟩
theorem tfPower_ok (lim : Nat) (t : Tm) (k n : Int) (e : Nat) (H : AHeap) (hl : lim ≤ H.next) (hn : -8 ≤ n ∧ n ≤ 8) (he : e ≤ 4) (hf : ∀ j, j ≤ e → Fine 8 16 (powF k n j [t0 k t])) :
   ACalls Tryz.prog lim n_spec_tfPower [tv t, .int .i64 k, .int .i64 n, .int .i64 e] H fun v H' => SlT H' v (powF k n e [t0 k t]) ∧ Ext H H' := by
 refine is_spec_tfPower.go rfl ?_
 unfold c_spec_tfPower
 have wn : IntKind.i64.wrap (0 - n) = -n := by rw [IntKind.wrap_i64]; omega
 refine s_reg ?_
 simp only [o_pure, o_eff, o_nil, POp.ev, Opd.ev, EOp.ev, env0, gu, gv, setD, List.set, xsj, xel, boxT]
 have hB := BoxT.mk' H t
 generalize H.alloc (tc t) = H1 at hB ⊢
 generalize hpe : H.next = p at hB hl ⊢
 have hge := hB.ge
 have hlt1 := hB.lt
 refine s_reg ?_
 simp only [o_pure, o_callF, POp.ev, Opd.ev, gv, setD, List.map, xsj, xel, hB.all]
 refine (poWith_ok lim _ _ _ _ (by omega)).mono ?_
 rintro _ H2 ⟨rfl, hx2⟩
 have hnx2 := hx2.next
 simp only [o_cont, o_pure, o_eff, o_nil, POp.ev, Opd.ev, EOp.ev, gv, setD, List.set, List.map, xsj, xel, bsliceT]
 have hx3 := Ext.alloc H2 (tc (t0 k t))
 have ho := sl_one H2 (t0 k t)
 change SlT (H2.alloc (tc (wi t k 0))) _ _ at ho
 change Ext H2 (H2.alloc (tc (wi t k 0))) at hx3
 generalize H2.alloc (tc (wi t k 0)) = H3 at hx3 ho ⊢
 have hx03 : Ext H H3 := (hB.ext.trans hx2).trans hx3
 generalize hsl : Value.slice (some ⟨H2.next, 0, some 0⟩) 1 1 = sl at ho ⊢
 refine s_block ?_
 refine s_loop1 (fun r e' H' => ∃ (j : Nat) (v6 x7 x8 x9 x10 x11 x12 : Value), j + r = e ∧ SlT H' v6 (powF k n j [t0 k t]) ∧ Ext H H' ∧ e' = [tv t, .int .i64 k, .int .i64 n, .int .i64 r, .pointer (some ⟨p, 0, none⟩), .slice none 0 0, v6, x7, x8, x9, x10, x11, x12]) e ⟨0, sl, _, _, _, _, _, _, by omega, ho, hx03, rfl⟩ ?_
 clear ho hx03 hx3 hsl sl hx2 hnx2 hB hge hlt1
 rintro r e' H4 ⟨j, v6, x7, x8, x9, x10, x11, x12, hjr, hv6, hx, rfl⟩
 have hnx := hx.next
 refine s_test ?_
 simp only [o_pure, o_nil, POp.ev, Opd.ev, gv, setD, xsj, xel, binV, ne_eq, xnt, if_false]
 refine Test.split (fun hgt => ?_) (fun hgt => ?_)
 · have hr : 0 < r := by simpa using hgt
   have hF := hf j (by omega)
   have hps := powF_succ k n j [t0 k t]
   generalize powF k n j [t0 k t] = L at hv6 hF hps
   refine s_skip1 ?_
   simp +decide only [pqn]
   refine s_block ?_
   refine s_reg ?_
   simp only [o_pure, o_nil, POp.ev, Opd.ev, setD, List.set, xsj, xel]
   refine s_assoc (s_reg ?_)
   simp only [o_pure, o_nil, POp.ev, Opd.ev, gv, setD, List.set, xsj, xel, hv6.lenV]
   refine s_cut1 (fun e' H' => ∃ (v7 x8 x9 x12 : Value), SlT H' v7 (stepF k n L) ∧ Ext H H' ∧ e' = [tv t, .int .i64 k, .int .i64 n, .int .i64 r, .pointer (some ⟨p, 0, none⟩), .slice none 0 0, v6, v7, x8, x9, v6, .int .i64 L.length, x12]) ?_ ?_
   · refine s_block1 ?_
     refine s_loop1 (fun m e' H' => ∃ (i : Nat) (v7 x8 x9 : Value), i + m = L.length ∧ SlT H' v7 (putAll [] (pairs k n (L.take i))) ∧ Ext H4 H' ∧ e' = [tv t, .int .i64 k, .int .i64 n, .int .i64 r, .pointer (some ⟨p, 0, none⟩), .slice none 0 0, v6, v7, x8, x9, v6, .int .i64 L.length, .int .i64 i]) L.length ⟨0, _, _, _, by omega, Sl.nil _ _, Ext.refl _, rfl⟩ ?_
     rintro m e' H5 ⟨i, v7, x8', x9', him, hv7, hx5, rfl⟩
     have hnx5 := hx5.next
     refine s_test ?_
     simp only [o_pure, o_nil, POp.ev, Opd.ev, gv, setD, xsj, xel, binV, ne_eq, xnt, if_false]
     refine Test.split (fun hlt => ?_) (fun hlt => ?_)
     · have hlt' : i < L.length := by simpa using hlt
       obtain ⟨b1, o1, h1, a1⟩ := (hv6.ext hx5).at hlt'
       have hE := hF.ex _ (List.getElem_mem hlt')
       refine s_skip1 ?_
       simp +decide only [pqn]
       refine s_block ?_
       refine s_reg ?_
       simp only [o_pure, o_eff, o_nil, POp.ev, Opd.ev, EOp.ev, gv, setD, List.set, xsj, xel, h1, a1.all, store4_new (lim := lim) (H := H5) (by omega)]
       have hB := BoxT.mk' H5 L[i]
       generalize H5.alloc (tc L[i]) = H6 at hB ⊢
       generalize H5.next = q at hB hnx5 ⊢
       have hge := hB.ge
       have hlt6 := hB.lt
       have hpw : 0 ≤ pw L[i] k ∧ pw L[i] k ≤ 8 := by
         unfold E at hE
         unfold pw
         split
         · omega
         · split <;> omega
       have wp : IntKind.i64.wrap (pw L[i] k + 1) = pw L[i] k + 1 := by rw [IntKind.wrap_i64]; omega
       refine s_regT_cut (fun e' H' => ∃ q9, BoxT H6 H' q9 (upT k L[i]) ∧ e' = [tv t, .int .i64 k, .int .i64 n, .int .i64 r, .pointer (some ⟨p, 0, none⟩), .slice none 0 0, v6, v7, .pointer (some ⟨q, 0, none⟩), .pointer (some ⟨q9, 0, none⟩), v6, .int .i64 L.length, .int .i64 i]) ?_ ?_
       · simp only [o_pure, o_eff, o_callF, o_callN, t_op, t_alt, t_nil, o_nil, POp.ev, Opd.ev, EOp.ev, gv, setD, List.set, List.map, xsj, xel, binV, ne_eq, hB.all]
         refine ⟨?_, ?_⟩
         · refine (poPower_ok H6.next _ _ _).mono ?_
           rintro _ H7 ⟨rfl, hx7⟩
           have hnx7 := hx7.next
           simp only [o_cont, o_nil, gv, setD, List.set, xsj, xel, xnt, if_false, wp]
           refine ⟨?_, ?_⟩
           · refine (poWith_ok lim _ _ _ _ (by omega)).mono ?_
             rintro _ H8 ⟨rfl, hx8⟩
             have hnx8 := hx8.next
             simp only [o_cont, o_nil, gv, setD, List.set, xsj, xel, store4_new (lim := lim) (H := H8) (by omega)]
             exact ⟨H8.next, (BoxT.mk' H8 (upT k L[i])).low (hx7.trans hx8), rfl⟩
           · have hz := Ext.alloc H7 [.int .i64 0, .int .i64 0, .int .i64 0, .int .i64 0]
             have hzb : (H7.alloc [.int .i64 0, .int .i64 0, .int .i64 0, .int .i64 0]).blk H7.next = some [.int .i64 0, .int .i64 0, .int .i64 0, .int .i64 0] := alloc_new _ _
             have hzn : (H7.alloc [.int .i64 0, .int .i64 0, .int .i64 0, .int .i64 0]).next = H7.next + 1 := rfl
             generalize H7.alloc [.int .i64 0, .int .i64 0, .int .i64 0, .int .i64 0] = H7' at hz hzb hzn ⊢
             refine (poWith_ok lim _ _ _ _ (by omega)).mono ?_
             rintro _ H8 ⟨rfl, hx8⟩
             have hnx8 := hx8.next
             obtain ⟨st, hb⟩ := box_store (lim := lim) (Hb := H6) (q := H7.next) (upT k L[i]) ((hx7.trans hz).trans hx8) (by omega) (by omega) (by rw [hx8.blk _ (by omega)]; exact hzb) (by omega)
             unfold upT at st
             simp only [o_cont, o_nil, gv, setD, xsj, xel, st]
             exact ⟨H7.next, hb, rfl⟩
         · have hz := Ext.alloc H6 [.int .i64 0, .int .i64 0, .int .i64 0, .int .i64 0]
           have hzb : (H6.alloc [.int .i64 0, .int .i64 0, .int .i64 0, .int .i64 0]).blk H6.next = some [.int .i64 0, .int .i64 0, .int .i64 0, .int .i64 0] := alloc_new _ _
           have hzn : (H6.alloc [.int .i64 0, .int .i64 0, .int .i64 0, .int .i64 0]).next = H6.next + 1 := rfl
           generalize H6.alloc [.int .i64 0, .int .i64 0, .int .i64 0, .int .i64 0] = H6' at hz hzb hzn ⊢
           refine (poPower_ok H6'.next _ _ _).mono ?_
           rintro _ H7 ⟨rfl, hx7⟩
           have hnx7 := hx7.next
           simp only [o_cont, o_nil, gv, setD, xsj, xel, xnt, if_false, wp]
           refine (poWith_ok lim _ _ _ _ (by omega)).mono ?_
           rintro _ H8 ⟨rfl, hx8⟩
           have hnx8 := hx8.next
           obtain ⟨st, hb⟩ := box_store (lim := lim) (Hb := H6) (q := H6.next) (upT k L[i]) ((hz.trans hx7).trans hx8) (by omega) (by omega) (by rw [hx8.blk _ (by omega), hx7.blk _ (by omega)]; exact hzb) (by omega)
           unfold upT at st
           simp only [o_cont, o_nil, gv, setD, xsj, xel, st]
           exact ⟨H6.next, hb, rfl⟩
       rintro e' H8 ⟨q9, hB9, rfl⟩
       have hge9 := hB9.ge
       have hlt9 := hB9.lt
       have hB8 := hB.mono hB9.ext
       obtain ⟨cs4, t4, hB5⟩ := hB8.put0 (lim := lim) (by omega) (W (L[i].c * -n))
       refine s_reg ?_
       simp only [o_pure, o_eff, o_nil, POp.ev, Opd.ev, EOp.ev, gv, setD, xsj, xel, binV, load1V, unV, fadV, ne_eq, xnt, if_false, Nat.add_zero, hB8.c0, wn, t4]
       have hB9' : (H8.put q cs4).blk q9 = some (tc (upT k L[i])) := by rw [put_ne _ _ (by omega)]; exact hB9.blk
       generalize H8.put q cs4 = H9 at hB5 hB9' ⊢
       clear t4 hB8 cs4 hB
       have hx9 := hB5.ext
       have hlt99 := hB5.lt
       have hall5 : loadNV H9 4 (.pointer (some ⟨q, 0, none⟩)) = some (tv (sc (-n) L[i])) := hB5.all
       have hall9 : loadNV H9 4 (.pointer (some ⟨q9, 0, none⟩)) = some (tv (upT k L[i])) := load4 hB9'
       have hLi : ∀ y ∈ putAll [] (pairs k n (L.take i)), E 9 y := by
         intro y hy
         rcases mem_putAll hy with hy | ⟨u, hu, ho⟩
         · simp at hy
         · exact (pairs_E (fun t ht => hF.ex t (List.mem_of_mem_take ht)) u hu).ord ho
       have hlen : (putAll [] (pairs k n (L.take i))).length ≤ 100 := by
         have h1 := putAll_length (pairs k n (L.take i)) []
         rw [pairs_length, List.length_take] at h1
         have := hF.len
         simp at h1
         omega
       refine s_reg1 ?_
       simp only [o_pure, o_callN, POp.ev, Opd.ev, gv, setD, List.map, xsj, xel, hall5, hall9]
       refine (putG_ok H9.next v7 _ (upT k L[i]) _ (Nat.le_refl _) (hv7.ext hx9) (by omega) (fun x hx => (hLi x hx).exB (by omega)) ((upT_E hE).exB (by omega))).mono ?_
       rintro v71 H10 ⟨c1, g1, g2, g3, g4⟩
       simp only [o_cont, o_callF, Opd.ev, gv, setD, List.map]
       have hnx10 := g4.next
       have hlen2 := putF_length (upT k L[i]) (putAll [] (pairs k n (L.take i)))
       refine (putG_ok lim v71 _ (sc (-n) L[i]) _ (by omega) (Vec.sl g3) (by omega) (fun x hx => ?_) ((sc_E hE).exB (by omega))).mono ?_
       · rcases mem_putF hx with hx | hx
         · exact (hLi x hx).exB (by omega)
         · exact ((upT_E hE).ord hx).exB (by omega)
       rintro v72 H11 ⟨c2, k1, k2, k3, k4⟩
       simp only [o_cont, o_pure, o_nil, POp.ev, Opd.ev, gv, setD, List.set, xsj, xel]
       simp +decide only [pqn, pbn]
       refine s_reg1 ?_
       simp only [o_pure, o_nil, POp.ev, Opd.ev, gv, setD, List.set, xsj, xel, binV, ne_eq, xnt, if_false, add1 (i := i) (by have := hF.len; omega)]
       simp +decide only [pqn]
       refine Round.mk (m - 1) (by omega) ⟨i + 1, v72, _, _, by omega, ?_, ((hx5.trans hx9).trans g4).trans k4, rfl⟩
       rw [pairs_take hlt', putAll_append]
       exact Vec.sl k3
     · have hge : i = L.length := by simp at hlt; omega
       subst hge
       rw [List.take_length] at hv7
       refine s_exit1 ?_
       simp +decide only [pqn, pqe, pbe, reduceIte]
       exact ⟨v7, _, _, _, hv7, hx.trans hx5, rfl⟩
   rintro e' H5 ⟨v7, x8', x9', x12', hv7, hx5, rfl⟩
   refine s_reg1 ?_
   simp only [o_pure, o_nil, POp.ev, Opd.ev, gv, setD, List.set, xsj, xel]
   simp +decide only [pqn, pbn]
   refine s_reg1 ?_
   simp only [o_pure, o_nil, POp.ev, Opd.ev, gv, setD, List.set, xsj, xel, binV, ne_eq, xnt, if_false, sub1N (i := r) (by omega) (by omega)]
   simp +decide only [pqn]
   exact Round.mk (r - 1) (by omega) ⟨j + 1, v7, _, _, _, _, _, _, by omega, by rw [hps]; exact hv7, hx5, rfl⟩
 · have hr : r = 0 := by simp at hgt; omega
   subst hr
   have hj : j = e := by omega
   subst hj
   refine s_exit1 ?_
   simp +decide only [pqn, pqe, pbe, reduceIte]
   refine s_reg ?_
   simp only [o_pure, o_nil, POp.ev, Opd.ev, gv, setD, List.set, xsj, xel]
   refine s_ret1 ?_
   simp +decide only [pfr, resV, resOne, gv, xsj, xel]
   exact ⟨hv6, hx⟩
theorem putAll_take {acc M : List Tm} {j : Nat} (h : j < M.length) : putAll acc (M.take (j + 1)) = putF M[j] (putAll acc (M.take j)) := by
 rw [List.take_succ_eq_append_getElem h, putAll_append]
 rfl
theorem tfShift_ok (lim : Nat) (sp : Value) (p : List Tm) (k n : Int) (H : AHeap) (hl : lim ≤ H.next) (hp : SlT H sp p) (hn : -8 ≤ n ∧ n ≤ 8) (hlen : p.length ≤ 20) (hok : ∀ t ∈ p, okTm t = true ∧ t.c ≠ 0) :
   ACalls Tryz.prog lim n_spec_tfShift [sp, .int .i64 k, .int .i64 n] H fun v H' => ∃ b x, v = .tuple #[x, .bool (goodP (shP k n p))] ∧ VecT H' b x (shP k n p) ∧ H.next ≤ b ∧ b ≤ H'.next ∧ Ext H H' := by
 refine is_spec_tfShift.go rfl ?_
 unfold c_spec_tfShift
 refine s_reg ?_
 simp only [o_pure, o_nil, POp.ev, Opd.ev, env0, gu, setD, List.set, xsj, xel]
 refine s_reg ?_
 simp only [o_pure, o_nil, POp.ev, Opd.ev, setD, List.set, xsj, xel]
 refine s_assoc (s_reg ?_)
 simp only [o_pure, o_nil, POp.ev, Opd.ev, gv, setD, List.set, xsj, xel, hp.lenV]
 refine s_block ?_
 refine s_loop1 (fun r e' H' => ∃ (i b : Nat) (v5 x6 x7 x11 x12 x13 : Value), i + r = p.length ∧ VecT H' b v5 (putAll [] (shM k n (p.take i))) ∧ H.next ≤ b ∧ b ≤ H'.next ∧ Ext H H' ∧ e' = [sp, .int .i64 k, .int .i64 n, .slice none 0 0, .bool false, v5, x6, x7, sp, .int .i64 p.length, .int .i64 i, x11, x12, x13]) p.length ⟨0, H.next, _, _, _, _, _, _, by omega, vecT_nil _ _, Nat.le_refl _, Nat.le_refl _, Ext.refl _, rfl⟩ ?_
 rintro r e' H1 ⟨i, b, v5, x6, x7, x11, x12, x13, hir, hv, hb, hbH, hx, rfl⟩
 have hnx := hx.next
 refine s_test ?_
 simp only [o_pure, o_nil, POp.ev, Opd.ev, gv, setD, xsj, xel, binV, ne_eq, xnt, if_false]
 refine Test.split (fun hlt => ?_) (fun hlt => ?_)
 · have hlt' : i < p.length := by simpa using hlt
   obtain ⟨b1, o1, h1, a1⟩ := (hp.ext hx).at hlt'
   have hti := hok _ (List.getElem_mem hlt')
   have hpw := pw_small hti.1 k
   have hF := shT_fine (k := k) (n := n) hti.1 hti.2
   obtain ⟨e, he⟩ : ∃ e : Nat, pw p[i] k = e := ⟨(pw p[i] k).toNat, by omega⟩
   have hsh : shT k n p[i] = powF k n e [t0 k p[i]] := by unfold shT; rw [he]; rfl
   refine s_skip1 ?_
   simp +decide only [pqn]
   refine s_block ?_
   refine s_reg ?_
   simp only [o_pure, o_eff, o_nil, POp.ev, Opd.ev, EOp.ev, gv, setD, List.set, xsj, xel, h1, a1.all, store4_new (lim := lim) (H := H1) (by omega)]
   have hB := BoxT.mk' H1 p[i]
   generalize H1.alloc (tc p[i]) = H2 at hB ⊢
   generalize H1.next = q at hB hnx hbH ⊢
   have hge := hB.ge
   have hlt2 := hB.lt
   have hcall : ∀ G : AHeap, lim ≤ G.next → ACalls Tryz.prog lim n_spec_tfPower [tv p[i], .int .i64 k, .int .i64 n, .int .i64 e] G fun v H' => SlT H' v (shT k n p[i]) ∧ Ext G H' := by
     intro G hG
     rw [hsh]
     exact tfPower_ok lim p[i] k n e G hG hn (by omega) (fun j hj => pow_fine hti.1 hti.2 (by omega))
   refine s_regT_cut (fun e' H' => ∃ sl, SlT H' sl (shT k n p[i]) ∧ Ext H2 H' ∧ e' = [sp, .int .i64 k, .int .i64 n, .slice none 0 0, .bool false, v5, .pointer (some ⟨q, 0, none⟩), x7, sp, .int .i64 p.length, .int .i64 i, sl, .int .i64 (shT k n p[i]).length, .int .i64 0]) ?_ ?_
   · simp only [o_pure, o_callF, o_callN, t_op, t_alt, t_nil, o_nil, POp.ev, Opd.ev, gv, setD, List.set, List.map, xsj, xel, hB.all]
     refine ⟨?_, ?_⟩
     · refine (poPower_ok H2.next _ _ _).mono ?_
       rintro _ H3 ⟨rfl, hx3⟩
       have hnx3 := hx3.next
       simp only [o_cont, o_nil, gv, setD, List.set, he]
       refine ⟨?_, ?_⟩
       · refine (hcall H3 (by omega)).mono ?_
         rintro sl H4 ⟨g1, g2⟩
         simp only [o_cont, o_nil, gv, setD, List.set, xsj, xel, g1.lenV]
         exact ⟨⟨sl, g1, hx3.trans g2, rfl⟩, ⟨sl, g1, hx3.trans g2, rfl⟩⟩
       · refine (hcall H3 (by omega)).mono ?_
         rintro sl H4 ⟨g1, g2⟩
         simp only [o_cont, o_nil, gv, setD, List.set, xsj, xel, g1.lenV]
         exact ⟨sl, g1, hx3.trans g2, rfl⟩
     · refine (poPower_ok H2.next _ _ _).mono ?_
       rintro _ H3 ⟨rfl, hx3⟩
       have hnx3 := hx3.next
       simp only [o_cont, o_nil, gv, setD, he]
       refine (hcall H3 (by omega)).mono ?_
       rintro sl H4 ⟨g1, g2⟩
       simp only [o_cont, o_nil, gv, setD, List.set, xsj, xel, g1.lenV]
       exact ⟨sl, g1, hx3.trans g2, rfl⟩
   rintro e' H3 ⟨sl, hsl, hx3, rfl⟩
   have hnx3 := hx3.next
   have hx13 : Ext H H3 := (hx.trans hB.ext).trans hx3
   replace hv := VecT.ext (VecT.ext hv hB.ext) hx3
   have hacc : ∀ y ∈ putAll [] (shM k n (p.take i)), E 8 y := shP_ex fun t ht => hok t (List.mem_of_mem_take ht)
   have hacl : (putAll [] (shM k n (p.take i))).length ≤ 320 := by
     have := shP_length (k := k) (n := n) (p := p.take i) (fun t ht => hok t (List.mem_of_mem_take ht))
     unfold shP at this
     rw [List.length_take] at this
     omega
   have hps : putAll [] (shM k n (p.take (i + 1))) = putAll (putAll [] (shM k n (p.take i))) (shT k n p[i]) := by rw [shM_take hlt', putAll_append]
   generalize putAll [] (shM k n (p.take i)) = A at hv hacc hacl hps
   generalize shT k n p[i] = M at hsl hF hps ⊢
   clear hcall hsh
   refine s_cut0 (fun e' H' => ∃ (b : Nat) (v5 x7 x13 : Value), VecT H' b v5 (putAll A M) ∧ H.next ≤ b ∧ b ≤ H'.next ∧ Ext H H' ∧ e' = [sp, .int .i64 k, .int .i64 n, .slice none 0 0, .bool false, v5, .pointer (some ⟨q, 0, none⟩), x7, sp, .int .i64 p.length, .int .i64 i, sl, .int .i64 M.length, x13]) ?_ ?_
   · refine s_block1 ?_
     refine s_loop1 (fun m e' H' => ∃ (j b : Nat) (v5 x7 : Value), j + m = M.length ∧ VecT H' b v5 (putAll A (M.take j)) ∧ H.next ≤ b ∧ b ≤ H'.next ∧ Ext H3 H' ∧ e' = [sp, .int .i64 k, .int .i64 n, .slice none 0 0, .bool false, v5, .pointer (some ⟨q, 0, none⟩), x7, sp, .int .i64 p.length, .int .i64 i, sl, .int .i64 M.length, .int .i64 j]) M.length ⟨0, b, v5, _, by omega, hv, hb, by omega, Ext.refl _, rfl⟩ ?_
     clear hv hb hbH
     rintro m e' H4 ⟨j, b, v5', x7', hjm, hv, hb, hbH, hx4, rfl⟩
     have hnx4 := hx4.next
     refine s_test ?_
     simp only [o_pure, o_nil, POp.ev, Opd.ev, gv, setD, xsj, xel, binV, ne_eq, xnt, if_false]
     refine Test.split (fun hlt2' => ?_) (fun hlt2' => ?_)
     · have hlt3 : j < M.length := by simpa using hlt2'
       obtain ⟨b5, o5, h5, a5⟩ := (hsl.ext hx4).at hlt3
       have hu := hF.can.nz _ (List.getElem_mem hlt3)
       have huE := hF.ex _ (List.getElem_mem hlt3)
       refine s_skip1 ?_
       simp +decide only [pqn]
       refine s_block ?_
       refine s_reg ?_
       simp only [o_pure, o_eff, o_nil, POp.ev, Opd.ev, EOp.ev, gv, setD, List.set, xsj, xel, h5, a5.all, store4_new (lim := lim) (H := H4) (by omega)]
       have hB := BoxT.mk' H4 M[j]
       generalize H4.alloc (tc M[j]) = H5 at hB ⊢
       generalize H4.next = q5 at hB hnx4 hbH ⊢
       have hge5 := hB.ge
       have hlt5 := hB.lt
       have hne : (M[j].c != 0) = true := by simpa using hu.1
       refine s_test1 ?_
       simp only [o_pure, o_nil, POp.ev, Opd.ev, gv, setD, xsj, xel, binV, load1V, fadV, ne_eq, xnt, if_false, Nat.zero_add, hB.c0, hne]
       refine Test.true_ (s_reg1 ?_)
       have hlA := putAll_length (M.take j) A
       rw [List.length_take] at hlA
       have hM := hF.len
       simp only [o_pure, o_callF, POp.ev, Opd.ev, gv, setD, List.map, xsj, xel, hB.all]
       refine (putG_ok lim v5' _ _ _ (by omega) (Vec.sl (VecT.ext hv hB.ext)) (by omega) (fun x hx => ?_) (huE.exB (by omega))).mono ?_
       · rcases mem_putAll hx with hx | ⟨u, hu, ho⟩
         · exact (hacc x hx).exB (by omega)
         · exact ((hF.ex u (List.mem_of_mem_take hu)).ord ho).exB (by omega)
       rintro v6 H6 ⟨c6, g1, g2, g3, g4⟩
       simp only [o_cont, o_pure, o_nil, POp.ev, Opd.ev, gv, setD, List.set, xsj, xel]
       simp +decide only [pqn, pbn]
       refine s_reg1 ?_
       simp only [o_pure, o_nil, POp.ev, Opd.ev, gv, setD, List.set, xsj, xel, binV, ne_eq, xnt, if_false, add1 (i := j) (by omega)]
       simp +decide only [pqn]
       have hx36 := (hx4.trans hB.ext).trans g4
       have hn36 := hx36.next
       have hn13 := hx13.next
       refine Round.mk (m - 1) (by omega) ⟨j + 1, c6, v6, _, by omega, ?_, by omega, g2, hx36, rfl⟩
       rw [putAll_take hlt3]
       exact g3
     · have hge2 : j = M.length := by simp at hlt2'; omega
       subst hge2
       rw [List.take_length] at hv
       refine s_exit1 ?_
       simp +decide only [pqn, pqe, pbe, reduceIte]
       exact ⟨b, v5', _, _, hv, hb, hbH, hx13.trans hx4, rfl⟩
   rintro e' H4 ⟨b', v5', x7', x13', g1, g2, g3, g4, rfl⟩
   simp +decide only [pqn, pbn]
   refine s_reg1 ?_
   simp only [o_pure, o_nil, POp.ev, Opd.ev, gv, setD, List.set, xsj, xel, binV, ne_eq, xnt, if_false, add1 (i := i) (by omega)]
   simp +decide only [pqn]
   refine Round.mk (r - 1) (by omega) ⟨i + 1, b', v5', _, _, _, _, _, by omega, by rw [hps]; exact g1, g2, g3, g4, rfl⟩
 · have hge : i = p.length := by simp at hlt; omega
   subst hge
   rw [List.take_length] at hv
   have hpl := shP_length (k := k) (n := n) hok
   refine s_exit1 ?_
   simp +decide only [pqn, pqe, pbe, reduceIte]
   refine s_reg ?_
   simp only [o_pure, o_callF, POp.ev, Opd.ev, gv, setD, List.map, xsj, xel]
   refine (poGood_ok lim _ _ _ (by omega) (Vec.sl hv) (by unfold shP at hpl; omega)).mono ?_
   rintro _ H2 ⟨rfl, hx2⟩
   have hnx2 := hx2.next
   simp only [o_cont, o_pure, o_nil, POp.ev, Opd.ev, gv, setD, List.set, xsj, xel]
   refine s_ret1 ?_
   simp +decide only [pfr, resV, resOne, resL, gv, xsj, xel, Option.bind_some, xms]
   exact ⟨b, v5, rfl, VecT.ext hv hx2, hb, by omega, hx.trans hx2⟩
theorem sShift_ok (lim : Nat) (s : Value) (ss : List (List Tm)) (k n : Int) (H : AHeap) (hl : lim ≤ H.next) (hs : SlSS H s ss) (hn : ss.length ≤ 1000000) (hn2 : ∀ p ∈ ss, p.length ≤ 1000000) :
   ACalls Tryz.prog lim n_spec_ShiftSystem [s, .int .i64 k, .int .i64 n] H fun v H' => ResSS H' H.next v (shR ss k n) ∧ Ext H H' := by
 refine is_spec_ShiftSystem.go rfl ?_
 unfold c_spec_ShiftSystem
 refine s_reg ?_
 simp only [o_pure, o_nil, POp.ev, Opd.ev, env0, gu, setD, List.set, xsj, xel]
 refine s_test_I (!shA ss k n) (Ext H) ?_ (fun H1 hx hg => ?_) (fun H1 hx hg => ?_)
 · simp only [o_pure, o_callF, POp.ev, Opd.ev, gv, setD, List.map, xsj, xel]
   refine (tfAsked_ok lim _ _ _ _ hl hs hn hn2).mono ?_
   rintro _ H1 ⟨rfl, hx⟩
   have hnx := hx.next
   unfold shA
   cases hgi : goodSS ss && inU ss.length k
   · simp only [o_cont, o_pure, o_guard, gk_tf, o_nil, POp.ev, Opd.ev, gv, setD, xsj, xel, pickV, unV, Bool.not_false]
     simp [hx]
   · simp only [o_cont, o_pure, o_callF, o_guard, gk_ff, POp.ev, Opd.ev, gv, setD, List.map, xsj, xel, unV, Bool.not_true]
     refine (l1In_ok _ _ _ _ _).eq ?_
     simp only [o_cont, o_pure, o_guard, gk_ff, o_nil, POp.ev, Opd.ev, gv, setD, xsj, xel, pickV, unV]
     simp [hx]
 · simp only [Bool.not_eq_true'] at hg
   refine s_reg ?_
   simp only [o_pure, o_nil, POp.ev, Opd.ev, setD, List.set, xsj, xel]
   refine s_ret1 ?_
   simp +decide only [pqr, pfr, resV, resOne, resL, gv, xsj, xel, Option.bind_some, xms]
   refine ⟨⟨.slice none 0 0, ?_, ?_⟩, hx⟩
   · simp [shR, hg]
   · simp [shR, hg]
     exact .inl ⟨rfl, rfl⟩
 · simp only [Bool.not_eq_false'] at hg
   have hgi := hg
   simp only [shA, inU, Bool.and_eq_true, decide_eq_true_eq] at hgi
   obtain ⟨⟨hgd, hk1, hk2⟩, hn1⟩ := hgi
   obtain ⟨_, hl3, hall⟩ := goodSS_all hgd
   have hsame := goodSS_sh hg
   have hs1 := hs.ext hx
   have hnx1 := hx.next
   refine s_skip1 ?_
   simp +decide only [pqn]
   refine s_reg ?_
   simp only [o_pure, o_nil, POp.ev, Opd.ev, setD, List.set, xsj, xel]
   refine s_assoc (s_reg ?_)
   simp only [o_pure, o_nil, POp.ev, Opd.ev, gv, setD, List.set, xsj, xel, hs.lenV]
   refine s_block ?_
   refine s_loop1 (fun j e' H' => ∃ (m b : Nat) (vs : List Value) (bs : List Nat) (v x6 x7 x8 : Value), m + j = ss.length ∧ GrowX H' H1.next b vs bs v ((ss.map (shP k n)).take m) ∧ (∀ p ∈ ss.take m, goodP (shP k n p) = true) ∧ Ext H1 H' ∧ e' = [s, .int .i64 k, .int .i64 n, .slice none 0 0, .bool false, v, x6, x7, x8, s, .int .i64 ss.length, .int .i64 m]) ss.length ⟨0, H1.next, [], [], _, _, _, _, by omega, GrowX.nil' _, by simp, Ext.refl _, rfl⟩ ?_
   rintro j e' H' ⟨m, b, vs, bs, v, x6, x7, x8, hmj, hG, hgood, hx', rfl⟩
   have hnx2 := hx'.next
   refine s_test ?_
   simp only [o_pure, o_nil, POp.ev, Opd.ev, gv, setD, xsj, xel, binV, ne_eq, xnt, if_false]
   refine Test.split (fun hlt => ?_) (fun hlt => ?_)
   · have hlt' : m < ss.length := by simpa using hlt
     obtain ⟨b1, o1, s1, u1, u2, u3⟩ := (hs1.ext hx').at hlt'
     have hp20 := hall _ (List.getElem_mem hlt')
     refine s_skip1 ?_
     simp +decide only [pqn]
     refine s_block ?_
     refine s_reg ?_
     simp only [o_pure, o_nil, POp.ev, Opd.ev, gv, setD, List.set, xsj, xel, load1V, u1, u2]
     refine s_reg ?_
     simp only [o_pure, o_callF, POp.ev, Opd.ev, gv, setD, List.map, xsj, xel]
     refine (tfShift_ok lim s1 ss[m] k n _ (by omega) u3 hn1 hp20.1 hp20.2.1).mono ?_
     rintro _ H2 ⟨c, x, rfl, g1, g2, g3, g4⟩
     have hnx3 := g4.next
     simp only [o_cont, o_pure, o_nil, POp.ev, Opd.ev, gv, setD, List.set, xsj, xel, extV, List.getElem?_toArray, xgz, xgs]
     refine s_test ?_
     simp only [o_pure, o_nil, POp.ev, Opd.ev, gv, setD, xsj, xel, unV]
     cases hgp : goodP (shP k n ss[m])
     · refine Test.true_ (s_reg ?_)
       simp only [o_pure, o_nil, POp.ev, Opd.ev, setD, List.set, xsj, xel]
       refine s_ret1 ?_
       simp +decide only [pqr, pbr, pfr, resV, resOne, resL, gv, xsj, xel, Option.bind_some, xms]
       have hno : shR ss k n = none := by
         unfold shR
         rw [hsame, if_neg]
         simp only [Bool.and_eq_true, not_and, List.all_eq_true]
         intro _ h
         have := h _ (List.getElem_mem hlt')
         rw [hgp] at this
         cases this
       rw [hno]
       exact ⟨⟨_, rfl, .inl ⟨rfl, rfl⟩⟩, (hx.trans hx').trans g4⟩
     · refine Test.false_ (s_skip1 ?_)
       simp +decide only [pqn]
       have hcv : cellsV x = some [x] := Vec.cellsV g1
       obtain ⟨v', H3, b', r1, r2, r3⟩ := hG.push (lim := lim) (by omega) hx' (Nat.le_refl _) (by omega) g4 g2 g3 g1 (by rw [List.length_take]; omega)
       refine s_reg1 ?_
       simp only [o_pure, o_eff, o_nil, POp.ev, Opd.ev, EOp.ev, gv, setD, List.set, List.map, xsj, xel, bsliceV _ _ hcv, r1]
       simp +decide only [pqn, pbn]
       refine s_reg1 ?_
       simp only [o_pure, o_nil, POp.ev, Opd.ev, gv, setD, List.set, xsj, xel, binV, ne_eq, xnt, if_false, add1 (i := m) (by omega)]
       simp +decide only [pqn]
       refine Round.mk (j - 1) (by omega) ⟨m + 1, b', vs ++ [x], bs ++ [c], v', _, _, _, by omega, ?_, fun p hp => ?_, r3, rfl⟩
       · rw [List.take_succ_eq_append_getElem (by rw [List.length_map]; exact hlt'), List.getElem_map]
         exact r2
       · rw [List.take_succ_eq_append_getElem hlt'] at hp
         rcases List.mem_append.1 hp with hp | hp
         · exact hgood p hp
         · rw [List.mem_singleton.1 hp]; exact hgp
   · have hge : m = ss.length := by simp at hlt; omega
     subst hge
     rw [List.take_of_length_le (by rw [List.length_map]; exact Nat.le_refl _)] at hG
     rw [List.take_length] at hgood
     refine s_exit1 ?_
     simp +decide only [pqn, pqe, pbe, reduceIte]
     refine s_reg ?_
     simp only [o_pure, o_nil, POp.ev, Opd.ev, gv, setD, List.set, xsj, xel]
     refine s_ret1 ?_
     simp +decide only [pfr, resV, resOne, resL, gv, xsj, xel, Option.bind_some, xms]
     have hyes : shR ss k n = some (ss.map (shP k n)) := by
       unfold shR
       rw [hsame, if_pos]
       rw [hg, Bool.true_and, List.all_eq_true]
       exact hgood
     rw [hyes]
     exact ⟨⟨v, rfl, hG.own.wide hnx1 (Nat.le_refl _)⟩, hx.trans hx'⟩
theorem aad_in {q n : Nat} {i : Nat} (h : i < n) : aadV n 1 (.pointer (some ⟨q, 0, none⟩)) (.int .i64 i) = some (.pointer (some ⟨q, i, none⟩)) := by
 simp [aadV, h]
theorem termOfG_ok (lim : Nat) (c x y z : Int) (H : AHeap) (hl : lim ≤ H.next) : ACalls Tryz.prog lim n_impl_termOf [.int .i64 c, .agg #[vi x, vi y, vi z]] H fun v H' => v = tv ⟨c, x, y, z⟩ ∧ Ext H H' := by
 refine is_impl_termOf.go rfl ?_
 unfold c_impl_termOf
 have hcv : cellsV (.agg #[vi x, vi y, vi z]) = some [vi x, vi y, vi z] := rfl
 refine s_reg ?_
 simp only [o_eff, o_nil, Opd.ev, EOp.ev, env0, gu, gv, setD, List.set, xms, xsj, xel, boxH, hcv]
 have hx1 := Ext.alloc H [vi x, vi y, vi z]
 have hp : (H.alloc [vi x, vi y, vi z]).blk H.next = some [vi x, vi y, vi z] := alloc_new _ _
 have hnp : (H.alloc [vi x, vi y, vi z]).next = H.next + 1 := rfl
 generalize H.alloc [vi x, vi y, vi z] = H1 at hx1 hp hnp ⊢
 have hx2 := Ext.alloc H1 [.int .i64 0, .int .i64 0, .int .i64 0, .int .i64 0]
 have hr : (H1.alloc [.int .i64 0, .int .i64 0, .int .i64 0, .int .i64 0]).blk H1.next = some [.int .i64 0, .int .i64 0, .int .i64 0, .int .i64 0] := alloc_new _ _
 rw [← hx2.blk _ (by omega)] at hp
 replace hx1 := hx1.trans hx2
 generalize H1.alloc [.int .i64 0, .int .i64 0, .int .i64 0, .int .i64 0] = H2 at hx1 hp hr ⊢
 generalize hre : H1.next = r at hr hnp ⊢
 generalize hpe : H.next = p at hp hnp hl ⊢
 have a0 : aadV 3 1 (.pointer (some ⟨p, 0, none⟩)) (.int .i64 0) = some (.pointer (some ⟨p, 0, none⟩)) := aad_in (i := 0) (by omega)
 have a1 : aadV 3 1 (.pointer (some ⟨p, 0, none⟩)) (.int .i64 1) = some (.pointer (some ⟨p, 1, none⟩)) := aad_in (i := 1) (by omega)
 have a2 : aadV 3 1 (.pointer (some ⟨p, 0, none⟩)) (.int .i64 2) = some (.pointer (some ⟨p, 2, none⟩)) := aad_in (i := 2) (by omega)
 have hst : storeH lim H2 4 (.pointer (some ⟨r, 0, none⟩)) (tv ⟨c, x, y, z⟩) = some (undef, H2.put r (tc ⟨c, x, y, z⟩)) := store4 (by omega) hr
 have hbv : ∀ l : List Value, l = tc ⟨c, x, y, z⟩ → Value.agg l.toArray = tv ⟨c, x, y, z⟩ := by rintro l rfl; rfl
 refine s_reg ?_
 simp only [o_pure, o_eff, o_nil, POp.ev, Opd.ev, EOp.ev, gv, setD, List.map, xms, xsj, xel, load1V, xgz, xgs, a0, a1, a2, cell_blk hp, bldT, hbv _ rfl, hst]
 refine s_ret1 ?_
 have hld : loadNV (H2.put r (tc ⟨c, x, y, z⟩)) 4 (.pointer (some ⟨r, 0, none⟩)) = some (tv ⟨c, x, y, z⟩) := load4 (put_same _ _ _)
 simp +decide only [pfr, resV, resOne, gv, xsj, xel, hld]
 exact ⟨trivial, Chg.ext hx1 (Chg.put _ _ _) (by omega)⟩
def exL (t : Tm) : List Value := [vi t.x, vi t.y, vi t.z]
theorem exL_get (t : Tm) {k : Nat} (hk : k < 3) : (exL t)[k]? = some (vi (pw t k)) := by
 match k, hk with
 | 0, _ => rfl
 | 1, _ => rfl
 | 2, _ => rfl
theorem exL_set (t : Tm) {k : Nat} (hk : k < 3) (m : Int) : (exL t).set k (vi m) = exL (wi t k m) := by
 match k, hk with
 | 0, _ => rfl
 | 1, _ => rfl
 | 2, _ => rfl
theorem wi_c (t : Tm) (k m : Int) : (wi t k m).c = t.c := by
 unfold wi
 split
 · rfl
 · split <;> rfl
theorem bsliceTT (H : AHeap) (a b : Tm) : bsliceH H 2 [.int .i64 0, .int .i64 0, .int .i64 0, .int .i64 0, .int .i64 0, .int .i64 0, .int .i64 0, .int .i64 0] [(0, 4, tv a), (4, 4, tv b)] = some (.slice (some ⟨H.next, 0, some 0⟩) 2 2, H.alloc (tcs [a, b])) := by
 simp [bsliceH, fillV, cells_tv, tc, tcs, putL]
theorem sl_two (H : AHeap) (a b : Tm) : SlT (H.alloc (tcs [a, b])) (.slice (some ⟨H.next, 0, some 0⟩) 2 2) [a, b] :=
 Vec.sl (Vec.lit (H := H) (n := 2) (sz := 4) (cells := tcs [a, b]) rfl)
theorem shift1_ok (lim : Nat) (t : Tm) (qu qn k : Nat) (n : Int) (H : AHeap) (hl : lim ≤ H.next) (hqu : qu < H.next) (hqn : qn < H.next) (hcu : H.blk qu = some [vi k]) (hcn : H.blk qn = some [vi n]) (hk : k < 3) (hn : -8 ≤ n ∧ n ≤ 8) (ht : okTm t = true) (hc : t.c ≠ 0) :
   ACalls Tryz.prog lim n_impl_ShiftSystem_1 [tv t, .pointer (some ⟨qu, 0, none⟩), .pointer (some ⟨qn, 0, none⟩)] H fun v H' => SlT H' v (shT k n t) ∧ Ext H H' := by
 refine is_impl_ShiftSystem_1.go rfl ?_
 unfold c_impl_ShiftSystem_1
 have wn : IntKind.i64.wrap (0 - n) = -n := by rw [IntKind.wrap_i64]; omega
 have hpw := pw_small ht k
 obtain ⟨e, he⟩ : ∃ e : Nat, pw t k = e := ⟨(pw t k).toNat, by omega⟩
 have cu : ∀ G : AHeap, Ext H G → G.blk qu = some [vi k] := fun G h => by rw [h.blk _ hqu]; exact hcu
 have cn : ∀ G : AHeap, Ext H G → G.blk qn = some [vi n] := fun G h => by rw [h.blk _ hqn]; exact hcn
 refine s_reg ?_
 simp only [o_pure, o_eff, o_nil, POp.ev, Opd.ev, EOp.ev, env0, gu, gv, setD, List.set, xsj, xel, boxT]
 have hB := BoxT.mk' H t
 generalize H.alloc (tc t) = H1 at hB ⊢
 generalize hpe : H.next = p at hB hl hqu hqn ⊢
 have hge := hB.ge
 have hlt1 := hB.lt
 refine s_reg ?_
 simp only [o_pure, o_callF, POp.ev, Opd.ev, gv, setD, List.map, xsj, xel, hB.all]
 refine (exponents_ok lim t H1 (by omega)).mono ?_
 rintro _ H2 ⟨rfl, hx2⟩
 have hnx2 := hx2.next
 simp only [o_cont, o_eff, o_nil, Opd.ev, EOp.ev, gv, setD, List.set, xsj, xel]
 have hxa := Ext.alloc H2 [.int .i64 0, .int .i64 0, .int .i64 0]
 have hna : (H2.alloc [.int .i64 0, .int .i64 0, .int .i64 0]).next = H2.next + 1 := rfl
 have h5 : (H2.alloc [.int .i64 0, .int .i64 0, .int .i64 0]).blk H2.next = some [.int .i64 0, .int .i64 0, .int .i64 0] := alloc_new _ _
 generalize H2.alloc [.int .i64 0, .int .i64 0, .int .i64 0] = H3 at hxa hna h5 ⊢
 generalize hqe : H2.next = q at hxa hna h5 hnx2 ⊢
 have hst : storeH lim H3 3 (.pointer (some ⟨q, 0, none⟩)) (expV t) = some (undef, H3.put q (exL t)) := store3 (by omega) h5
 simp only [xsj, xel, hst]
 have hB3 : BoxT H (H3.put q (exL t)) p t := ((hB.mono hx2).mono hxa).chg (Chg.put _ _ _) (by omega) (by omega)
 have h6 : (H3.put q (exL t)).blk q = some (exL t) := put_same _ _ _
 have hn6 : (H3.put q (exL t)).next = H3.next := rfl
 generalize H3.put q (exL t) = H4 at hB3 h6 hn6 ⊢
 clear hst h5 hxa hx2 hB
 have aad : aadV 3 1 (.pointer (some ⟨q, 0, none⟩)) (.int .i64 k) = some (.pointer (some ⟨q, k, none⟩)) := aad_in hk
 refine s_reg ?_
 simp only [o_pure, o_nil, POp.ev, Opd.ev, gv, setD, List.set, xsj, xel, load1V, xgz, cell_blk (cu _ hB3.ext), xgz, aad, cell_blk h6, exL_get t hk, he]
 have st1 := store_int (lim := lim) .i64 0 (by omega) h6 (o := k) (by simpa [exL] using hk)
 refine s_reg ?_
 simp only [o_pure, o_eff, o_nil, POp.ev, Opd.ev, EOp.ev, gv, setD, xsj, xel, load1V, xgz, cell_blk (cu _ hB3.ext), xgz, aad, st1]
 have hB4 : BoxT H (H4.put q ((exL t).set k (.int .i64 0))) p t := hB3.chg (Chg.put _ _ _) (by omega) (by omega)
 have h7 : (H4.put q ((exL t).set k (.int .i64 0))).blk q = some (exL (t0 k t)) := by rw [put_same]; exact congrArg some (exL_set t hk 0)
 have hn7 : (H4.put q ((exL t).set k (.int .i64 0))).next = H4.next := rfl
 generalize H4.put q ((exL t).set k (.int .i64 0)) = H5 at hB4 h7 hn7 ⊢
 clear st1 h6 hB3
 have ld3 : ∀ (G : AHeap) (u : Tm), G.blk q = some (exL u) → loadNV G 3 (.pointer (some ⟨q, 0, none⟩)) = some (.agg #[vi u.x, vi u.y, vi u.z]) := by
   intro G u h
   exact loadNV_blk h
 refine s_reg ?_
 simp only [o_pure, o_callF, POp.ev, Opd.ev, gv, setD, List.map, xsj, xel, load1V, fadV, Nat.add_zero, hB4.c0, ld3 _ _ h7]
 refine (termOfG_ok lim _ _ _ _ H5 (by omega)).mono ?_
 rintro _ H6 ⟨rfl, hx6⟩
 have hnx6 := hx6.next
 have ht0 : (⟨t.c, (t0 k t).x, (t0 k t).y, (t0 k t).z⟩ : Tm) = t0 k t := by
   have := wi_c t k 0
   unfold t0
   rw [← this]
 rw [ht0]
 simp only [o_cont, o_pure, o_eff, o_nil, POp.ev, Opd.ev, EOp.ev, gv, setD, List.set, List.map, xsj, xel, bsliceT]
 have hx7 := Ext.alloc H6 (tc (t0 k t))
 have hov : VecT (H6.alloc (tc (t0 k t))) H6.next (.slice (some ⟨H6.next, 0, some 0⟩) 1 1) [t0 k t] := by
   have h := Vec.lit (H := H6) (n := 1) (sz := 4) (cells := tc (t0 k t)) rfl
   have e : tcs [t0 k t] = tc (t0 k t) := by simp [tcs]
   unfold VecT
   rw [e]
   exact h
 have hn8 : (H6.alloc (tc (t0 k t))).next = H6.next + 1 := rfl
 generalize H6.alloc (tc (t0 k t)) = H7 at hx7 hov hn8 ⊢
 generalize Value.slice (some ⟨H6.next, 0, some 0⟩) 1 1 = sl at hov ⊢
 have h8 : H7.blk q = some (exL (t0 k t)) := by rw [hx7.blk _ (by omega), hx6.blk _ (by omega)]; exact h7
 have hB7 := (hB4.mono hx6).mono hx7
 have hz3 : fillV [.int .i64 0, .int .i64 0, .int .i64 0] [] = some [vi 0, vi 0, vi 0] := rfl
 have hbv : Value.agg (List.toArray [vi 0, vi 0, vi 0]) = .agg #[vi 0, vi 0, vi 0] := rfl
 have st2 : storeH lim H7 3 (.pointer (some ⟨q, 0, none⟩)) (.agg #[vi 0, vi 0, vi 0]) = some (undef, H7.put q [vi 0, vi 0, vi 0]) := store3 (by omega) h8
 refine s_reg ?_
 simp only [o_pure, o_eff, o_nil, POp.ev, Opd.ev, EOp.ev, gv, setD, List.map, xms, xsj, xel, hz3, st2]
 have hB8 : BoxT H (H7.put q [vi 0, vi 0, vi 0]) p t := hB7.chg (Chg.put _ _ _) (by omega) (by omega)
 have h9 : (H7.put q [vi 0, vi 0, vi 0]).blk q = some (exL ⟨1, 0, 0, 0⟩) := put_same _ _ _
 have hn9 : (H7.put q [vi 0, vi 0, vi 0]).next = H7.next := rfl
 have ho8 : VecT (H7.put q [vi 0, vi 0, vi 0]) H6.next sl [t0 k t] := VecT.chg hov (Chg.put _ _ _) (by omega)
 generalize H7.put q [vi 0, vi 0, vi 0] = H8 at hB8 h9 hn9 ho8 ⊢
 clear st2 h8 hB7 hov h7 hB4
 have st3 := store_int (lim := lim) .i64 1 (by omega) h9 (o := k) (by simpa [exL] using hk)
 refine s_reg ?_
 simp only [o_pure, o_eff, o_nil, POp.ev, Opd.ev, EOp.ev, gv, setD, xsj, xel, load1V, xgz, cell_blk (cu _ hB8.ext), xgz, aad, st3]
 have hB9 : BoxT H (H8.put q ((exL ⟨1, 0, 0, 0⟩).set k (.int .i64 1))) p t := hB8.chg (Chg.put _ _ _) (by omega) (by omega)
 have h10 : (H8.put q ((exL ⟨1, 0, 0, 0⟩).set k (.int .i64 1))).blk q = some (exL (xk k)) := by rw [put_same]; exact congrArg some (exL_set ⟨1, 0, 0, 0⟩ hk 1)
 have ho9 : VecT (H8.put q ((exL ⟨1, 0, 0, 0⟩).set k (.int .i64 1))) H6.next sl [t0 k t] := VecT.chg ho8 (Chg.put _ _ _) (by omega)
 have hn10 : (H8.put q ((exL ⟨1, 0, 0, 0⟩).set k (.int .i64 1))).next = H8.next := rfl
 generalize H8.put q ((exL ⟨1, 0, 0, 0⟩).set k (.int .i64 1)) = H9 at hB9 h10 ho9 hn10 ⊢
 clear st3 h9 hB8 ho8
 have hq9 : q < H9.next := by omega
 have hsl9 := Vec.sl ho9
 have hx9 := hB9.ext
 clear ho9 hB9
 have hxkc : (⟨1, (xk k).x, (xk k).y, (xk k).z⟩ : Tm) = xk k := by
   have : ∀ u : Tm, u.c = 1 → (⟨1, u.x, u.y, u.z⟩ : Tm) = u := by
     rintro ⟨c, x, y, z⟩ h
     subst h
     rfl
   exact this _ (wi_c _ _ _)
 refine s_assoc (s_reg ?_)
 simp only [o_pure, o_nil, POp.ev, Opd.ev, gv, setD, List.set, xsj, xel]
 refine s_block ?_
 refine s_loop1 (fun r e' H' => ∃ (j : Nat) (v7 : Value), j + r = e ∧ SlT H' v7 (powF k n j [t0 k t]) ∧ Ext H H' ∧ H'.blk q = some (exL (xk k)) ∧ q < H'.next ∧ e' = [tv t, .pointer (some ⟨qu, 0, none⟩), .pointer (some ⟨qn, 0, none⟩), .pointer (some ⟨p, 0, none⟩), .slice none 0 0, .pointer (some ⟨q, 0, none⟩), .int .i64 e, v7, .int .i64 e, .int .i64 j]) e ⟨0, sl, by omega, hsl9, hx9, h10, hq9, rfl⟩ ?_
 rintro r e' H10 ⟨j, v7, hjr, hv7, hx, hbq, hqlt, rfl⟩
 have hnx := hx.next
 refine s_test ?_
 simp only [o_pure, o_nil, POp.ev, Opd.ev, gv, setD, xsj, xel, binV, ne_eq, xnt, if_false]
 refine Test.split (fun hlt => ?_) (fun hlt => ?_)
 · have hlt' : j < e := by simpa using hlt
   have hF := pow_fine (k := k) (n := n) ht hc (e := j) (by omega)
   have hps := powF_succ k n j [t0 k t]
   generalize powF k n j [t0 k t] = L at hv7 hF hps
   have hbl : fillV [.int .i64 0, .int .i64 0, .int .i64 0, .int .i64 0] [(0, 1, .int .i64 (-n))] = some (tc ⟨-n, 0, 0, 0⟩) := by simp [fillV, cellsV, tc, putL]
   refine s_skip1 ?_
   simp +decide only [pqn]
   refine s_block ?_
   refine s_reg1 ?_
   simp only [o_pure, o_callN, POp.ev, Opd.ev, gv, setD, List.map, xms, xsj, xel, load1V, unV, xgz, ld3 _ _ hbq, cell_blk (cn _ hx), xgz, wn, hbl]
   refine (termOfG_ok H10.next _ _ _ _ H10 (Nat.le_refl _)).mono ?_
   rintro _ H11 ⟨rfl, hx11⟩
   have hnx11 := hx11.next
   rw [hxkc]
   have hbs : bsliceH H11 2 [.int .i64 0, .int .i64 0, .int .i64 0, .int .i64 0, .int .i64 0, .int .i64 0, .int .i64 0, .int .i64 0] [(0, 4, tv (xk k)), (4, 4, .agg (tc ⟨-n, 0, 0, 0⟩).toArray)] = some (.slice (some ⟨H11.next, 0, some 0⟩) 2 2, H11.alloc (tcs [xk k, ⟨-n, 0, 0, 0⟩])) := bsliceTT _ _ _
   simp only [o_cont, o_eff, o_callF, Opd.ev, EOp.ev, gv, setD, List.map, xsj, xel, hbs]
   have hx12 := Ext.alloc H11 (tcs [xk k, ⟨-n, 0, 0, 0⟩])
   have ho := sl_two H11 (xk k) ⟨-n, 0, 0, 0⟩
   have hn12 : (H11.alloc (tcs [xk k, ⟨-n, 0, 0, 0⟩])).next = H11.next + 1 := rfl
   generalize H11.alloc (tcs [xk k, ⟨-n, 0, 0, 0⟩]) = H12 at hx12 ho hn12 ⊢
   have hxkE : exS (xk k) := by
     unfold exS xk wi
     split
     · simp
     · split <;> simp
   refine (multiplyTerms_ok lim v7 _ L [xk k, ⟨-n, 0, 0, 0⟩] H12 (by omega) (hv7.ext (hx11.trans hx12)) ho (by have := hF.len; omega) (by simp) (fun u hu => (hF.ex u hu).exS (by omega)) (fun u hu => ?_)).mono ?_
   · rcases List.mem_cons.1 hu with rfl | hu
     · exact hxkE
     · rw [List.mem_singleton.1 hu]; unfold exS; simp
   rintro v8 H13 ⟨c8, g1, g2, g3, g4⟩
   rw [hF.step_coll, ← hps] at g3
   have hx10 := (hx11.trans hx12).trans g4
   have hnx13 := hx10.next
   simp only [o_cont, o_pure, o_nil, POp.ev, Opd.ev, gv, setD, List.set, xsj, xel]
   simp +decide only [pqn, pbn]
   refine s_reg1 ?_
   simp only [o_pure, o_nil, POp.ev, Opd.ev, gv, setD, List.set, xsj, xel, binV, ne_eq, xnt, if_false, add1 (i := j) (by omega)]
   simp +decide only [pqn]
   exact Round.mk (r - 1) (by omega) ⟨j + 1, v8, by omega, Vec.sl g3, hx.trans hx10, by rw [hx10.blk _ hqlt]; exact hbq, by omega, rfl⟩
 · have hj : j = e := by simp at hlt; omega
   subst hj
   have hsh : shT k n t = powF k n j [t0 k t] := by unfold shT; rw [he]; rfl
   refine s_exit1 ?_
   simp +decide only [pqn, pqe, pbe, reduceIte]
   refine s_reg ?_
   simp only [o_pure, o_nil, POp.ev, Opd.ev, gv, setD, List.set, xsj, xel]
   refine s_ret1 ?_
   simp +decide only [pfr, resV, resOne, gv, xsj, xel]
   rw [hsh]
   exact ⟨hv7, hx⟩
theorem flat_len {f : Tm → List Tm} : ∀ {p : List Tm}, (∀ t ∈ p, (f t).length ≤ 16) → (p.flatMap f).length ≤ 16 * p.length
 | [], _ => by simp
 | t :: p, h => by
   have h1 := h t (by simp)
   have h2 := flat_len (p := p) (fun x hx => h x (by simp [hx]))
   rw [List.flatMap_cons, List.length_append, List.length_cons]
   omega
def collR (f : Tm → List Tm) (ss : List (List Tm)) : Option (List (List Tm)) := if goodSS (ss.map fun p => coll (p.flatMap f)) then some (ss.map fun p => coll (p.flatMap f)) else none
theorem systemResultG_ok (lim : Nat) (s c1 c2 : Value) (g : FuncId) (f : Tm → List Tm) (ss : List (List Tm)) (H : AHeap) (hl : lim ≤ H.next) (hs : SlSS H s ss) (hn : ss.length ≤ 1000000) (hn2 : ∀ p ∈ ss, p.length ≤ 20) (hok : ∀ p ∈ ss, ∀ t ∈ p, okTm t = true ∧ t.c ≠ 0)
   (hf : ∀ p ∈ ss, ∀ t ∈ p, (f t).length ≤ 16)
   (hcl : ∀ (H' : AHeap) (t : Tm), Ext H H' → okTm t = true ∧ t.c ≠ 0 → ACalls Tryz.prog lim g [tv t, c1, c2] H' fun v H'' => SlT H'' v (f t) ∧ Ext H' H'') :
   ACalls Tryz.prog lim n_impl_systemResult [s, .func (.func g) #[] #[c1, c2]] H fun v H' => ResSS H' H.next v (collR f ss) ∧ Ext H H' := by
 refine is_impl_systemResult.go rfl ?_
 unfold c_impl_systemResult
 refine s_reg ?_
 simp only [o_pure, o_nil, POp.ev, Opd.ev, env0, gu, setD, List.set, xsj, xel]
 refine s_reg ?_
 simp only [o_pure, o_nil, POp.ev, Opd.ev, setD, List.set, xsj, xel]
 refine s_assoc (s_reg ?_)
 simp only [o_pure, o_nil, POp.ev, Opd.ev, gv, setD, List.set, xsj, xel, hs.lenV]
 refine s_block ?_
 refine s_loop1 (fun j e' H' => ∃ (i b : Nat) (vs : List Value) (bs : List Nat) (v x5 x6 x7 x11 x12 x13 : Value), i + j = ss.length ∧ GrowX H' H.next b vs bs v ((ss.take i).map fun p => coll (p.flatMap f)) ∧ Ext H H' ∧
   e' = [s, .func (.func g) #[] #[c1, c2], .slice none 0 0, .bool false, v, x5, x6, x7, s, .int .i64 ss.length, .int .i64 i, x11, x12, x13]) ss.length ⟨0, H.next, [], [], _, _, _, _, _, _, _, by omega, GrowX.nil' _, Ext.refl _, rfl⟩ ?_
 rintro j e' H' ⟨i, b, vs, bs, v, x5, x6, x7, x11, x12, x13, hij, hG, hx, rfl⟩
 have hnx := hx.next
 refine s_test ?_
 simp only [o_pure, o_nil, POp.ev, Opd.ev, gv, setD, xsj, xel, binV, ne_eq, xnt, if_false]
 refine Test.split (fun hlt => ?_) (fun hlt => ?_)
 · have hlt' : i < ss.length := by simpa using hlt
   obtain ⟨b1, o1, s1, h1, h2, h3⟩ := (hs.ext hx).at hlt'
   have hpl := hn2 _ (List.getElem_mem hlt')
   have hpok := hok _ (List.getElem_mem hlt')
   have hfl := hf _ (List.getElem_mem hlt')
   have hfm := flat_len (f := f) hfl
   refine s_skip1 ?_
   simp +decide only [pqn]
   refine s_block ?_
   refine s_reg ?_
   simp only [o_pure, o_nil, POp.ev, Opd.ev, gv, setD, List.set, xsj, xel, load1V, h1, h2]
   refine s_reg ?_
   simp only [o_pure, o_nil, POp.ev, Opd.ev, setD, List.set, xsj, xel]
   refine s_cut1 (fun e'' H'' => ∃ (c : Nat) (w x7 x11 x12 x13 : Value), VecT H'' c w (ss[i].flatMap f) ∧ H'.next ≤ c ∧ c ≤ H''.next ∧ Ext H' H'' ∧ e'' = [s, .func (.func g) #[] #[c1, c2], .slice none 0 0, .bool false, v, s1, w, x7, s, .int .i64 ss.length, .int .i64 i, x11, x12, x13]) ?_ ?_
   · refine s_reg ?_
     simp only [o_pure, o_nil, POp.ev, Opd.ev, gv, setD, List.set, xsj, xel, h3.lenV]
     refine s_block1 ?_
     refine s_loop1 (fun j2 e' H2 => ∃ (k c : Nat) (w x7 : Value), k + j2 = ss[i].length ∧ VecT H2 c w ((ss[i].take k).flatMap f) ∧ H'.next ≤ c ∧ c ≤ H2.next ∧ Ext H' H2 ∧ e' = [s, .func (.func g) #[] #[c1, c2], .slice none 0 0, .bool false, v, s1, w, x7, s, .int .i64 ss.length, .int .i64 i, s1, .int .i64 ss[i].length, .int .i64 k]) ss[i].length ⟨0, H'.next, _, _, by omega, vecT_nil _ _, Nat.le_refl _, Nat.le_refl _, Ext.refl _, rfl⟩ ?_
     rintro j2 e' H2 ⟨k, c, w, x7, hkj, hv, hc1, hc2, hx2, rfl⟩
     have hnx2 := hx2.next
     refine s_test ?_
     simp only [o_pure, o_nil, POp.ev, Opd.ev, gv, setD, xsj, xel, binV, ne_eq, xnt, if_false]
     refine Test.split (fun hlt2 => ?_) (fun hlt2 => ?_)
     · have hk : k < ss[i].length := by simpa using hlt2
       obtain ⟨b2, o2, k1, a2⟩ := (h3.ext hx2).at hk
       have hto := hpok _ (List.getElem_mem hk)
       generalize hte : ss[i][k] = t at a2 hto
       refine s_skip1 ?_
       simp +decide only [pqn]
       refine s_block ?_
       refine s_reg ?_
       simp only [o_pure, o_eff, o_nil, POp.ev, Opd.ev, EOp.ev, gv, setD, List.set, xsj, xel, k1, a2.all, store4_new (lim := lim) (H := H2) (by omega)]
       have hB := BoxT.mk' H2 t
       generalize H2.alloc (tc t) = H3 at hB ⊢
       generalize hqe : H2.next = q at hB ⊢
       refine s_reg1 ?_
       simp only [o_callT, o_pure, POp.ev, Opd.ev, gv, setD, List.map, xsj, xel, hB.all, callV_clo, List.cons_append, List.nil_append]
       refine (hcl H3 t ((hx.trans hx2).trans hB.ext) hto).mono ?_
       rintro u H4 ⟨hu, hx4⟩
       have hxx := hB.ext.trans hx4
       have hn4 := hxx.next
       have hft : (f t).length ≤ 16 := by rw [← hte]; exact hfl _ (List.getElem_mem hk)
       have hfk := flat_len (f := f) (p := ss[i].take k) (fun x hx => hfl x (List.mem_of_mem_take hx))
       rw [List.length_take] at hfk
       obtain ⟨w', H5, c', g1, g2, g3, g5⟩ := appendT2 (lim := lim) (VecT.ext hv hxx) hu (by omega) (by omega)
       have hc5 := g5.next
       simp only [o_cont, o_pure, o_eff, o_nil, POp.ev, Opd.ev, EOp.ev, gv, setD, List.set, xsj, xel, g1]
       simp +decide only [pqn, pbn]
       refine s_reg1 ?_
       simp only [o_pure, o_nil, POp.ev, Opd.ev, gv, setD, List.set, xsj, xel, binV, ne_eq, xnt, if_false, add1 (i := k) (by omega)]
       simp +decide only [pqn]
       refine Round.mk (j2 - 1) (by omega) ⟨k + 1, c', w', _, by omega, ?_, by rcases g3 with rfl | g3 <;> omega, by omega, Chg.ext (hx2.trans hxx) g5 hc1, rfl⟩
       rw [List.take_succ_eq_append_getElem hk, hte, List.flatMap_append]
       simpa using g2
     · have hge : k = ss[i].length := by simp at hlt2; omega
       refine s_exit1 ?_
       simp +decide only [pqn, pqe, pbe, reduceIte]
       rw [hge, List.take_length] at hv
       exact ⟨c, w, _, _, _, _, hv, hc1, hc2, hx2, rfl⟩
   rintro e'' H2 ⟨c, w, y7, y11, y12, y13, hv, hc1, hc2, hx2, rfl⟩
   have hnx2 := hx2.next
   refine s_reg1 ?_
   simp only [o_pure, o_callF, POp.ev, Opd.ev, gv, setD, List.map, xsj, xel]
   refine (collectG_ok lim _ _ _ (by omega) (Vec.sl hv) (by omega)).mono ?_
   rintro w3 H3 ⟨c3, hc31, hc32, hv3, hx3⟩
   have hcv : cellsV w3 = some [w3] := Vec.cellsV hv3
   have hnx3 := hx3.next
   obtain ⟨v', H4, b', g1, g2, g3⟩ := hG.push (lim := lim) (by omega) hx (Nat.le_refl _) (by omega) (hx2.trans hx3) (by omega) hc32 hv3 (by rw [List.length_map, List.length_take]; omega)
   simp only [o_cont, o_pure, o_eff, o_nil, POp.ev, Opd.ev, EOp.ev, gv, setD, List.set, List.map, xsj, xel, bsliceV _ _ hcv, g1]
   simp +decide only [pqn, pbn]
   refine s_reg1 ?_
   simp only [o_pure, o_nil, POp.ev, Opd.ev, gv, setD, List.set, xsj, xel, binV, ne_eq, xnt, if_false, add1 (i := i) (by omega)]
   simp +decide only [pqn]
   refine Round.mk (j - 1) (by omega) ⟨i + 1, b', vs ++ [w3], bs ++ [c3], v', _, _, _, _, _, _, by omega, ?_, g3, rfl⟩
   rw [List.take_add_one, List.getElem?_eq_getElem hlt', List.map_append]
   exact g2
 · have hge : i = ss.length := by simp at hlt; omega
   subst hge
   rw [List.take_length] at hG
   have hO := hG.own
   refine s_exit1 ?_
   simp +decide only [pqn, pqe, pbe, reduceIte]
   refine s_test ?_
   simp only [o_pure, o_callF, POp.ev, Opd.ev, gv, setD, List.map, xsj, xel]
   refine (isSystem_ok lim _ _ _ (by omega) hO.slss (by simpa using hn) (by intro p hp; obtain ⟨q, hq, rfl⟩ := List.mem_map.1 hp; have h1 := hn2 q hq; have h2 := coll_length (q.flatMap f); have h3 := flat_len (f := f) (hf q hq); omega)).mono ?_
   rintro _ H2 ⟨rfl, hx2⟩
   have hnx2 := hx2.next
   simp only [o_cont, o_pure, o_nil, POp.ev, Opd.ev, gv, setD, xsj, xel, unV]
   unfold collR
   refine Test.split (fun hg => ?_) (fun hg => ?_)
   · simp only [Bool.not_eq_true'] at hg
     refine s_reg ?_
     simp only [o_pure, o_nil, POp.ev, Opd.ev, setD, List.set, xsj, xel]
     refine s_ret1 ?_
     simp +decide only [pqr, pfr, resV, resOne, resL, gv, xsj, xel, Option.bind_some, xms]
     rw [hg]
     exact ⟨⟨.slice none 0 0, rfl, .inl ⟨rfl, rfl⟩⟩, hx.trans hx2⟩
   · simp only [Bool.not_eq_false'] at hg
     refine s_skip1 ?_
     simp +decide only [pqn]
     refine s_reg ?_
     simp only [o_pure, o_nil, POp.ev, Opd.ev, gv, setD, List.set, xsj, xel]
     refine s_ret1 ?_
     simp +decide only [pfr, resV, resOne, resL, gv, xsj, xel, Option.bind_some, xms]
     rw [hg]
     exact ⟨⟨v, rfl, (hO.ext hx2).wide (Nat.le_refl _) hnx2⟩, hx.trans hx2⟩
theorem iShift_ok (lim : Nat) (s : Value) (ss : List (List Tm)) (k n : Int) (H : AHeap) (hl : lim ≤ H.next) (hs : SlSS H s ss) (hn : ss.length ≤ 1000000) (hn2 : ∀ p ∈ ss, p.length ≤ 1000000) :
   ACalls Tryz.prog lim n_impl_ShiftSystem [s, .int .i64 k, .int .i64 n] H fun v H' => ResSS H' H.next v (shR ss k n) ∧ Ext H H' := by
 refine is_impl_ShiftSystem.go rfl ?_
 unfold c_impl_ShiftSystem
 have hsub : IntKind.i64.wrap ((ss.length : Int) - 1) = (ss.length : Int) - 1 := by rw [IntKind.wrap_i64]; omega
 have hb1 : boxH H (.int .i64 k) = some (.pointer (some ⟨H.next, 0, none⟩), H.alloc [vi k]) := rfl
 have hb2 : ∀ G : AHeap, boxH G (.int .i64 n) = some (.pointer (some ⟨G.next, 0, none⟩), G.alloc [vi n]) := fun G => rfl
 refine s_reg ?_
 simp only [o_pure, o_eff, o_nil, POp.ev, Opd.ev, EOp.ev, env0, gu, gv, setD, List.set, xsj, xel, hb1, hb2]
 have hx1 := Ext.alloc H [vi k]
 have hk1 : (H.alloc [vi k]).blk H.next = some [vi k] := alloc_new _ _
 have hn1 : (H.alloc [vi k]).next = H.next + 1 := rfl
 generalize H.alloc [vi k] = H1 at hx1 hk1 hn1 ⊢
 have hx2 := Ext.alloc H1 [vi n]
 have hk2 : (H1.alloc [vi n]).blk H1.next = some [vi n] := alloc_new _ _
 have hn3 : (H1.alloc [vi n]).next = H1.next + 1 := rfl
 rw [← hx2.blk _ (by omega)] at hk1
 replace hx1 := hx1.trans hx2
 generalize H1.alloc [vi n] = H2 at hx1 hx2 hk1 hk2 hn3 ⊢
 generalize hqu : H.next = qu at *
 generalize hqn : H1.next = qn at *
 have hs2 := hs.ext hx1
 refine s_test_I (!shA ss k n) (Ext H2) ?_ (fun H3 hx hg => ?_) (fun H3 hx hg => ?_)
 · simp only [o_pure, o_callF, POp.ev, Opd.ev, gv, setD, List.map, xsj, xel]
   refine (isSystem_ok lim _ _ _ (by omega) hs2 hn hn2).mono ?_
   rintro _ H3 ⟨rfl, hx⟩
   have hk1' : H3.blk qu = some [vi k] := by rw [hx.blk _ (by omega)]; exact hk1
   have hk2' : H3.blk qn = some [vi n] := by rw [hx.blk _ (by omega)]; exact hk2
   unfold shA inU
   cases hg : goodSS ss
   · simp only [o_cont, o_pure, o_guard, gk_tf, o_nil, POp.ev, Opd.ev, gv, setD, xsj, xel, pickV, unV, Bool.not_false]
     simp [hx]
   · simp only [o_cont, o_pure, o_callF, o_guard, gk_ff, POp.ev, Opd.ev, gv, setD, List.map, xsj, xel, binV, load1V, unV, ne_eq, xnt, if_false, Bool.not_true, xgz, hs.lenV, hsub, cell_blk hk1', xgz]
     refine (inside_ok _ _ _ _ _).eq ?_
     cases h1 : decide (0 ≤ k) && decide (k ≤ (ss.length : Int) - 1)
     · simp only [o_cont, o_pure, o_guard, gk_ff, gk_tf, o_nil, POp.ev, Opd.ev, gv, setD, xsj, xel, pickV, unV, Bool.not_false]
       simp [hx]
     · simp only [o_cont, o_pure, o_callF, o_guard, gk_ff, POp.ev, Opd.ev, gv, setD, List.map, xsj, xel, pickV, load1V, unV, Bool.not_true, xgz, cell_blk hk2', xgz]
       refine (inside_ok _ _ _ _ _).eq ?_
       simp only [o_cont, o_pure, o_guard, gk_ff, o_nil, POp.ev, Opd.ev, gv, setD, xsj, xel, pickV, unV]
       simp [hx]
 · simp only [Bool.not_eq_true'] at hg
   refine s_reg ?_
   simp only [o_pure, o_nil, POp.ev, Opd.ev, setD, List.set, xsj, xel]
   refine s_ret1 ?_
   simp +decide only [pqr, pfr, resV, resOne, resL, gv, xsj, xel, Option.bind_some, xms]
   refine ⟨⟨.slice none 0 0, ?_, ?_⟩, hx1.trans hx⟩
   · simp [shR, hg]
   · simp [shR, hg]
     exact .inl ⟨rfl, rfl⟩
 · simp only [Bool.not_eq_false'] at hg
   have hgi := hg
   simp only [shA, inU, Bool.and_eq_true, decide_eq_true_eq] at hgi
   obtain ⟨⟨hgd, hk3, hk4⟩, hn8⟩ := hgi
   obtain ⟨_, hl3, hall⟩ := goodSS_all hgd
   obtain ⟨k, rfl⟩ : ∃ m : Nat, k = m := ⟨k.toNat, by omega⟩
   have hnx := hx.next
   have hk1' : H3.blk qu = some [vi k] := by rw [hx.blk _ (by omega)]; exact hk1
   have hk2' : H3.blk qn = some [vi n] := by rw [hx.blk _ (by omega)]; exact hk2
   have hR : collR (shT k n) ss = shR ss k n := by
     have e : (ss.map fun p => coll (p.flatMap (shT k n))) = ss.map (shP k n) := List.map_congr_left fun p hp => shP_coll (hall p hp).2.1
     unfold collR shR
     rw [e, hg, Bool.true_and]
   refine s_skip1 ?_
   simp +decide only [pqn]
   refine s_reg ?_
   simp only [o_pure, o_callF, POp.ev, Opd.ev, gv, setD, List.map, xsj, xel]
   refine (systemResultG_ok lim s _ _ _ (shT k n) ss H3 (by omega) ((hs2.ext hx)) hn (fun p hp => (hall p hp).1) (fun p hp => (hall p hp).2.1) (fun p hp t ht => (shT_fine ((hall p hp).2.1 t ht).1 ((hall p hp).2.1 t ht).2).len) (fun H' t hx' ht => ?_)).mono ?_
   · have hnx' := hx'.next
     exact shift1_ok lim t qu qn k n H' (by omega) (by omega) (by omega) (by rw [hx'.blk _ (by omega)]; exact hk1') (by rw [hx'.blk _ (by omega)]; exact hk2') (by omega) hn8 ht.1 ht.2
   rintro _ H4 ⟨⟨x, rfl, hO⟩, hx4⟩
   simp only [o_cont, o_pure, o_nil, POp.ev, Opd.ev, gv, setD, List.set, xsj, xel, extV, List.getElem?_toArray, xgz, xgs]
   refine s_ret1 ?_
   simp +decide only [pfr, resV, resOne, resL, gv, xsj, xel, Option.bind_some, xms]
   rw [hR] at hO ⊢
   have hnx4 := hx4.next
   exact ⟨⟨x, rfl, hO.wide (by omega) (Nat.le_refl _)⟩, (hx1.trans hx).trans hx4⟩
end Go.Proofs.YtmdeppkfboaepaaGreat
