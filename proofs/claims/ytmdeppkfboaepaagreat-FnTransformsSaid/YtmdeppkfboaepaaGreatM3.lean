/- Parts of the proof of a statement of this seat: contracts of functions that the law calls, or the law's own row; no condition. -/
import Derived.Test.YtmdeppkfboaepaaGreatM2
/- Dyadic numbers, the reference: made, compared; no condition beyond stated ranges. -/
namespace Go.Proofs.YtmdeppkfboaepaaGreat
open Go.Ab Ints
set_option linter.unusedSimpArgs false
set_option linter.unusedVariables false
abbrev wr (a : Int) : Int := IntKind.i64.wrap a
theorem wr_id {a : Int} (h0 : -9223372036854775808 ≤ a) (h1 : a ≤ 9223372036854775807) : wr a = a := by
 show IntKind.i64.wrap a = a
 rw [IntKind.wrap_i64]; omega
theorem wr_nat {n : Nat} (h : n ≤ 9000000000000000000) : IntKind.i64.wrap (n : Int) = (n : Int) := wr_id (by omega) (by omega)
theorem sgn3_cases (n : Int) : (0 < n ∧ sgn3 n = 1) ∨ (n < 0 ∧ sgn3 n = -1) ∨ (n = 0 ∧ sgn3 n = 0) := by
 unfold sgn3
 rcases Int.lt_trichotomy n 0 with h | h | h
 · right; left; exact ⟨h, by rw [if_neg (by omega), if_pos h]⟩
 · right; right; exact ⟨h, by rw [if_neg (by omega), if_neg (by omega)]⟩
 · left; exact ⟨h, by rw [if_pos h]⟩
theorem load2 {b : Nat} {H : AHeap} {x y : Value} (h : H.blk b = some [x, y]) : loadNV H 2 (.pointer (some ⟨b, 0, none⟩)) = some (.agg #[x, y]) := loadNV_blk h
theorem store2 {lim b : Nat} {H : AHeap} {p q x y : Value} (hl : lim ≤ b) (h : H.blk b = some [p, q]) : storeH lim H 2 (.pointer (some ⟨b, 0, none⟩)) (.agg #[x, y]) = some (undef, H.put b [x, y]) :=
 store_all (xs := [x, y]) hl h rfl
theorem fill2d (a b : Value) (k l : Int) : fillV [a, b] [(0, 1, .int .i64 k), (1, 1, .int .i64 l)] = some [vi k, vi l] := by simp [fillV, cellsV]
def dyV (n : Int) (k : Nat) : Value := .agg #[.int .i64 n, .int .i64 (k : Int)]
theorem pow_nat (k : Nat) : ((2 ^ k : Nat) : Int) = (2 : Int) ^ k := by push_cast; rfl
theorem pow_pos2 (k : Nat) : (1 : Int) ≤ 2 ^ k := by rw [← pow_nat]; have := Nat.one_le_two_pow (n := k); omega
theorem pow_le2 {k m : Nat} (h : k ≤ m) : (2 : Int) ^ k ≤ 2 ^ m := by
 rw [← pow_nat, ← pow_nat]
 have := Nat.pow_le_pow_right (n := 2) (by decide) h
 omega
theorem dyDown_ok (lim : Nat) (a b : Int) (H : AHeap) (hb : 1 ≤ b) (ha : a.natAbs ≤ 1000000000000000) : ACalls Tryz.prog lim n_spec_dyDown [.int .i64 a, .int .i64 b] H fun v H' => (∃ q, v = .int .i64 q ∧ q * b ≤ a ∧ a < (q + 1) * b ∧ q.natAbs ≤ 1000000000000001) ∧ H' = H := by
 refine is_spec_dyDown.go rfl ?_
 unfold c_spec_dyDown
 have hb0 : ¬ b = 0 := by omega
 have t1 := Int.mul_tdiv_add_tmod a b
 have t2 := Int.tmod_lt_of_pos a (show 0 < b by omega)
 have t3 := Int.lt_tmod_of_pos a (show 0 < b by omega)
 have t4 : (a.tdiv b).natAbs ≤ a.natAbs := by
   rw [Int.natAbs_tdiv]
   exact Nat.div_le_self _ _
 have w1 : IntKind.i64.wrap (a.tdiv b) = a.tdiv b := wr_id (by omega) (by omega)
 have w2 : IntKind.i64.wrap (a.tdiv b - 1) = a.tdiv b - 1 := wr_id (by omega) (by omega)
 have e1 : b * a.tdiv b = a.tdiv b * b := Int.mul_comm _ _
 obtain ⟨q, hq⟩ : ∃ q, a.tdiv b = q := ⟨_, rfl⟩
 obtain ⟨r, hr⟩ : ∃ r, a.tmod b = r := ⟨_, rfl⟩
 rw [hq] at t1 t4 w1 w2 e1
 rw [hr] at t1 t2 t3
 have e2 : (q + 1) * b = q * b + b := by rw [Int.add_mul, Int.one_mul]
 have e3 : (q - 1) * b = q * b - b := by rw [Int.sub_mul, Int.one_mul]
 refine s_reg ?_
 simp only [o_pure, o_nil, POp.ev, Opd.ev, env0, gu, setD, List.set, xsj, xel]
 refine s_reg ?_
 simp only [o_pure, o_nil, POp.ev, Opd.ev, gv, setD, List.set, xsj, xel, binV, ne_eq, xnt, if_false, hb0, hq, w1]
 refine s_cut (fun e' H' => ∃ q', q' * b ≤ a ∧ a < (q' + 1) * b ∧ q'.natAbs ≤ 1000000000000001 ∧ H' = H ∧ e' = [.int .i64 a, .int .i64 b, .int .i64 0, .int .i64 q']) ?_ ?_
 · refine s_test1 ?_
   simp only [o_pure, o_nil, POp.ev, Opd.ev, gv, setD, xsj, xel, binV, ne_eq, xnt, if_false, hb0, hr]
   refine Test.split (fun h => ?_) (fun h => ?_)
   · have h' := of_decide_eq_true h
     refine s_reg1 ?_
     simp only [o_pure, o_nil, POp.ev, Opd.ev, gv, setD, List.set, xsj, xel, binV, ne_eq, xnt, if_false, w2]
     simp +decide only [pqn]
     refine ⟨q - 1, by omega, ?_, by omega, trivial, rfl⟩
     rw [Int.sub_add_cancel]
     omega
   · have h' := of_decide_eq_false h
     refine s_skip1 ?_
     simp +decide only [pqn]
     exact ⟨q, by omega, by omega, by omega, trivial, rfl⟩
 · rintro e' H' ⟨q', g1, g2, g3, rfl, rfl⟩
   refine s_reg ?_
   simp only [o_pure, o_nil, POp.ev, Opd.ev, gv, setD, List.set, xsj, xel]
   refine s_ret1 ?_
   simp +decide only [pfr, resV, resOne, gv, xsj, xel]
   exact ⟨⟨q', rfl, g1, g2, g3⟩, trivial⟩
theorem dyFloor_ok (lim : Nat) (n : Int) (k : Nat) (H : AHeap) (hk : k ≤ 24) (hn : n.natAbs ≤ 1099511627776) : ACalls Tryz.prog lim n_spec_dyFloor [dyV n k] H fun v H' => (∃ p, v = .int .i64 p ∧ p * 2 ^ k ≤ n ∧ n < (p + 1) * 2 ^ k ∧ p.natAbs ≤ 1000000000000001) ∧ Ext H H' := by
 refine is_spec_dyFloor.go rfl ?_
 unfold c_spec_dyFloor dyV
 refine s_reg ?_
 simp only [o_pure, o_eff, o_nil, POp.ev, Opd.ev, EOp.ev, env0, gu, gv, setD, List.set, xms, xsj, xel, boxH, cellsV]
 have hx := Ext.alloc H [.int .i64 n, .int .i64 (k : Int)]
 have hb : (H.alloc [.int .i64 n, .int .i64 (k : Int)]).blk H.next = some [.int .i64 n, .int .i64 (k : Int)] := alloc_new _ _
 generalize H.alloc [.int .i64 n, .int .i64 (k : Int)] = H1 at hx hb ⊢
 refine s_reg ?_
 simp only [o_pure, o_callN, POp.ev, Opd.ev, gv, setD, List.map, xsj, xel, load1V, fadV, xgz, xgs, Nat.zero_add, cell_blk hb]
 refine (Ints.power_ok _ k H1 (by omega)).use ?_
 rintro _ HH ⟨rfl, hh⟩ _
 subst HH
 simp only [o_cont, o_callF, Opd.ev, gv, setD, List.map]
 refine (dyDown_ok _ n (2 ^ k) H1 (pow_pos2 k) (by omega)).mono ?_
 rintro _ HH ⟨⟨p, rfl, g1, g2, g3⟩, hh⟩
 subst HH
 simp only [o_cont, o_pure, o_nil, POp.ev, Opd.ev, gv, setD, List.set, xsj, xel]
 refine s_ret1 ?_
 simp +decide only [pfr, resV, resOne, gv, xsj, xel]
 exact ⟨⟨p, rfl, g1, g2, g3⟩, hx⟩
theorem dyAt_ok (lim : Nat) (n : Int) (k : Nat) (H : AHeap) (hl : lim ≤ H.next) (hk : k ≤ 24) (h0 : 0 ≤ n) (hn : n ≤ 2 ^ k) : ACalls Tryz.prog lim n_spec_dyAt [dyV n k, .int .i64 24] H fun v H' => v = .tuple #[.int .i64 (n * 2 ^ (24 - k)), .bool true] ∧ Ext H H' := by
 refine is_spec_dyAt.go rfl ?_
 unfold c_spec_dyAt dyV
 refine s_reg ?_
 simp only [o_pure, o_eff, o_nil, POp.ev, Opd.ev, EOp.ev, env0, gu, gv, setD, List.set, xms, xsj, xel, boxH, cellsV]
 have hx := Ext.alloc H [.int .i64 n, .int .i64 (k : Int)]
 have hb : (H.alloc [.int .i64 n, .int .i64 (k : Int)]).blk H.next = some [.int .i64 n, .int .i64 (k : Int)] := alloc_new _ _
 have hbl : H.next < (H.alloc [.int .i64 n, .int .i64 (k : Int)]).next := Nat.lt_succ_self _
 generalize H.alloc [.int .i64 n, .int .i64 (k : Int)] = H1 at hx hb hbl ⊢
 generalize hq : H.next = q at *
 refine s_test ?_
 simp only [o_pure, o_nil, POp.ev, Opd.ev, gv, setD, xsj, xel, binV, load1V, fadV, ne_eq, xnt, if_false, xgz, Nat.zero_add, cell_blk hb]
 refine Test.split (fun h => ?_) (fun h => ?_)
 · have h' : n = 0 := by simpa using h
   subst h'
   refine s_reg ?_
   simp only [o_pure, o_nil, POp.ev, Opd.ev, setD, List.set, xsj, xel]
   refine s_ret1 ?_
   simp +decide only [pqr, pfr, resV, resOne, resL, gv, xsj, xel, Option.bind_some, xms]
   exact ⟨by simp, hx⟩
 refine s_skip1 ?_
 simp +decide only [pqn]
 refine s_assoc (s_reg ?_)
 simp only [o_pure, o_nil, POp.ev, Opd.ev, gv, setD, List.set, xsj, xel, load1V, fadV, xgz, xgs, Nat.zero_add, cell_blk hb]
 refine s_block ?_
 have hp24 := pow_le2 hk
 refine s_loop1 (fun j e' H' => ∃ m : Nat, k + m + j = 24 ∧ H'.blk q = some [.int .i64 (n * 2 ^ m), .int .i64 (k : Int)] ∧ q < H'.next ∧ Ext H H' ∧ e' = [.agg #[.int .i64 n, .int .i64 (k : Int)], .int .i64 24, .pointer (some ⟨q, 0, none⟩), .int .i64 0, .bool false, .int .i64 ((k + m : Nat) : Int)]) (24 - k) ⟨0, by omega, by rw [Int.pow_zero, Int.mul_one]; exact hb, hbl, hx, rfl⟩ ?_
 rintro j e' H2 ⟨m, hmj, hb2, hbl2, hx2, rfl⟩
 refine s_test ?_
 simp only [o_pure, o_nil, POp.ev, Opd.ev, gv, setD, xsj, xel, binV, ne_eq, xnt, if_false]
 refine Test.split (fun hlt => ?_) (fun hlt => ?_)
 · have hlt' : k + m < 24 := by have := of_decide_eq_true hlt; omega
   have b1 : n * 2 ^ m ≤ 16777216 := by
     have h1 : n * 2 ^ m ≤ 2 ^ k * 2 ^ m := Int.mul_le_mul_of_nonneg_right hn (by have := pow_pos2 m; omega)
     rw [← Int.pow_add] at h1
     have h2 := pow_le2 (show k + m ≤ 24 by omega)
     have h3 : (2 : Int) ^ 24 = 16777216 := by decide
     omega
   have b0 : 0 ≤ n * 2 ^ m := Int.mul_nonneg h0 (by have := pow_pos2 m; omega)
   have p60 : (2 : Int) ^ 60 = 1152921504606846976 := by decide
   have w60 : IntKind.i64.wrap (0 - (2 : Int) ^ 60) = -1152921504606846976 := by rw [p60]; decide
   have hin : (decide (-1152921504606846976 ≤ n * 2 ^ m) && decide (n * 2 ^ m ≤ 2 ^ 60)) = true := by
     rw [p60]
     simp
     omega
   have w2 : IntKind.i64.wrap (n * 2 ^ m * 2) = n * 2 ^ (m + 1) := by
     rw [Int.pow_succ, ← Int.mul_assoc]
     exact wr_id (by omega) (by omega)
   refine s_skip1 ?_
   simp +decide only [pqn]
   refine s_block1 ?_
   refine s_test ?_
   simp only [o_pure, o_callN, POp.ev, Opd.ev, gv, setD, List.map, xsj, xel, load1V, fadV, xgz, Nat.zero_add, cell_blk hb2]
   refine (Ints.power_ok _ 60 H2 (by omega)).use ?_
   rintro _ HH ⟨rfl, hh⟩ _
   subst HH
   simp only [o_cont, o_pure, o_callN, POp.ev, Opd.ev, gv, setD, List.map, xsj, xel, unV, w60]
   refine (Ints.power_ok _ 60 H2 (by omega)).use ?_
   rintro _ HH ⟨rfl, hh⟩ _
   subst HH
   simp only [o_cont, o_callF, Opd.ev, gv, setD, List.map]
   refine (Ints.l1In_ok _ _ _ _ _).eq ?_
   rw [hin]
   simp only [o_cont, o_pure, o_nil, POp.ev, Opd.ev, gv, setD, xsj, xel, unV, Bool.not_true]
   refine Test.false_ (s_skip1 ?_)
   simp +decide only [pqn]
   have hst : storeH lim H2 1 (.pointer (some ⟨q, 0, none⟩)) (.int .i64 (n * 2 ^ (m + 1))) = some (undef, H2.put q [.int .i64 (n * 2 ^ (m + 1)), .int .i64 (k : Int)]) := store_cell rfl (by omega) hb2 (by simp)
   refine s_reg1 ?_
   simp only [o_pure, o_eff, o_nil, POp.ev, Opd.ev, EOp.ev, gv, setD, xsj, xel, binV, load1V, fadV, ne_eq, xnt, if_false, xgz, Nat.zero_add, cell_blk hb2, w2, hst]
   simp +decide only [pqn, pbn]
   refine s_reg1 ?_
   simp only [o_pure, o_nil, POp.ev, Opd.ev, gv, setD, List.set, xsj, xel, binV, ne_eq, xnt, if_false, add1 (i := k + m) (by omega)]
   simp +decide only [pqn]
   exact Round.mk (j - 1) (by omega) ⟨m + 1, by omega, put_same _ _ _, hbl2, Chg.ext hx2 (Chg.put _ _ _) (by omega), rfl⟩
 · have hge : m = 24 - k := by have := of_decide_eq_false hlt; omega
   subst hge
   refine s_exit1 ?_
   simp +decide only [pqn, pqe, pbe, reduceIte]
   refine s_reg ?_
   simp only [o_pure, o_nil, POp.ev, Opd.ev, gv, setD, List.set, xsj, xel, load1V, fadV, xgz, Nat.zero_add, cell_blk hb2]
   refine s_ret1 ?_
   simp +decide only [pfr, resV, resOne, resL, gv, xsj, xel, Option.bind_some, xms]
   exact ⟨trivial, hx2⟩
theorem sg3p {n : Int} (h : 0 < n) : sgn3 n = 1 := by unfold sgn3; rw [if_pos h]
theorem sg3n {n : Int} (h : n < 0) : sgn3 n = -1 := by unfold sgn3; rw [if_neg (by omega), if_pos h]
theorem sgn3_mul {c : Int} (hc : 0 < c) (n : Int) : sgn3 (c * n) = sgn3 n := by
 rcases Int.lt_trichotomy n 0 with h | h | h
 · rw [sg3n h, sg3n (Int.mul_neg_of_pos_of_neg hc h)]
 · subst h; simp
 · rw [sg3p h, sg3p (Int.mul_pos hc h)]
theorem floor_lt {n1 n2 p q : Int} {k1 k2 : Nat} (h1 : n1 < (p + 1) * 2 ^ k1) (h2 : q * 2 ^ k2 ≤ n2) (h : p < q) : n1 * 2 ^ k2 - n2 * 2 ^ k1 < 0 := by
 have a1 := pow_pos2 k1
 have a2 := pow_pos2 k2
 have g1 : n1 * 2 ^ k2 < (p + 1) * 2 ^ k1 * 2 ^ k2 := Int.mul_lt_mul_of_pos_right h1 (by omega)
 have g2 : q * 2 ^ k2 * 2 ^ k1 ≤ n2 * 2 ^ k1 := Int.mul_le_mul_of_nonneg_right h2 (by omega)
 have g3 : (p + 1) * (2 ^ k1 * 2 ^ k2) ≤ q * (2 ^ k1 * 2 ^ k2) := Int.mul_le_mul_of_nonneg_right (by omega) (Int.mul_nonneg (by omega) (by omega))
 rw [Int.mul_assoc] at g1
 rw [Int.mul_assoc, Int.mul_comm (2 ^ k2) (2 ^ k1)] at g2
 omega
theorem dyCmp_ok (lim : Nat) (n1 n2 : Int) (k1 k2 : Nat) (H : AHeap) (hl : lim ≤ H.next) (hk1 : k1 ≤ 24) (hk2 : k2 ≤ 24) (hn1 : n1.natAbs ≤ 1099511627776) (hn2 : n2.natAbs ≤ 1099511627776) :
   ACalls Tryz.prog lim n_spec_dyCmp [dyV n1 k1, dyV n2 k2] H fun v H' => v = .int .i64 (sgn3 (n1 * 2 ^ k2 - n2 * 2 ^ k1)) ∧ Ext H H' := by
 refine is_spec_dyCmp.go rfl ?_
 unfold c_spec_dyCmp dyV
 refine s_reg ?_
 simp only [o_pure, o_eff, o_nil, POp.ev, Opd.ev, EOp.ev, env0, gu, gv, setD, List.set, xms, xsj, xel, boxH, cellsV]
 have hx0 : Ext H ((H.alloc [.int .i64 n1, .int .i64 (k1 : Int)]).alloc [.int .i64 n2, .int .i64 (k2 : Int)]) := (Ext.alloc _ _).trans (Ext.alloc _ _)
 have hb1 : ((H.alloc [.int .i64 n1, .int .i64 (k1 : Int)]).alloc [.int .i64 n2, .int .i64 (k2 : Int)]).blk H.next = some [.int .i64 n1, .int .i64 (k1 : Int)] := by
   rw [alloc_old _ _ (Nat.lt_succ_self _)]
   exact alloc_new _ _
 have hb2 : ((H.alloc [.int .i64 n1, .int .i64 (k1 : Int)]).alloc [.int .i64 n2, .int .i64 (k2 : Int)]).blk (H.alloc [.int .i64 n1, .int .i64 (k1 : Int)]).next = some [.int .i64 n2, .int .i64 (k2 : Int)] := alloc_new _ _
 have hlt : H.next < ((H.alloc [.int .i64 n1, .int .i64 (k1 : Int)]).alloc [.int .i64 n2, .int .i64 (k2 : Int)]).next := by simp only [alloc_next]; omega
 have hlt2 : (H.alloc [.int .i64 n1, .int .i64 (k1 : Int)]).next < ((H.alloc [.int .i64 n1, .int .i64 (k1 : Int)]).alloc [.int .i64 n2, .int .i64 (k2 : Int)]).next := Nat.lt_succ_self _
 generalize (H.alloc [.int .i64 n1, .int .i64 (k1 : Int)]).alloc [.int .i64 n2, .int .i64 (k2 : Int)] = H1 at hx0 hb1 hb2 hlt hlt2 ⊢
 generalize (H.alloc [.int .i64 n1, .int .i64 (k1 : Int)]).next = r at hb2 hlt2 ⊢
 have hnx := hx0.next
 refine s_reg ?_
 simp only [o_pure, o_callN, POp.ev, Opd.ev, gv, setD, List.map, xsj, xel, load2 hb1, load2 hb2]
 refine (dyFloor_ok _ n1 k1 H1 hk1 hn1).use ?_
 rintro _ H2 ⟨⟨p, rfl, p1, p2, p3⟩, hx2⟩ _
 simp only [o_cont, o_callF, Opd.ev, gv, setD, List.map]
 refine (dyFloor_ok _ n2 k2 H2 hk2 hn2).mono ?_
 rintro _ H3 ⟨⟨q, rfl, q1, q2, q3⟩, hx3⟩
 have hx13 := hx2.trans hx3
 have hn13 := hx13.next
 simp only [o_cont, o_pure, o_nil, POp.ev, Opd.ev, gv, setD, List.set, xsj, xel]
 refine s_test ?_
 simp only [o_pure, o_nil, POp.ev, Opd.ev, gv, setD, xsj, xel, binV, ne_eq, xnt, if_false]
 have wpq : IntKind.i64.wrap (p - q) = p - q := wr_id (by omega) (by omega)
 refine Test.split (fun h => ?_) (fun h => ?_)
 · have h' : p ≠ q := by simpa using h
   refine s_reg ?_
   simp only [o_pure, o_callF, POp.ev, Opd.ev, gv, setD, List.map, xsj, xel, binV, ne_eq, xnt, if_false, wpq]
   refine (l1Sign_ok _ _ _).eq ?_
   simp only [o_cont, o_pure, o_nil, POp.ev, Opd.ev, gv, setD, List.set, xsj, xel]
   refine s_ret1 ?_
   simp +decide only [pqr, pfr, resV, resOne, gv, xsj, xel]
   refine ⟨?_, hx0.trans hx13⟩
   rcases Int.lt_or_lt_of_ne h' with hlt | hlt
   · rw [sg3n (show p - q < 0 by omega), sg3n (floor_lt p2 q1 hlt)]
   · have := floor_lt q2 p1 hlt
     rw [sg3p (show 0 < p - q by omega), sg3p (by omega)]
 have h' : p = q := by simpa using h
 subst h'
 have one : ∀ (n : Int) (k : Nat), k ≤ 24 → n.natAbs ≤ 1099511627776 → p * 2 ^ k ≤ n → n < (p + 1) * 2 ^ k → IntKind.i64.wrap (p * 2 ^ k) = p * 2 ^ k ∧ IntKind.i64.wrap (n - p * 2 ^ k) = n - p * 2 ^ k ∧ 0 ≤ n - p * 2 ^ k ∧ n - p * 2 ^ k ≤ 2 ^ k := by
   intro n k hk hn g1 g2
   have a1 := pow_le2 hk
   have a2 : (2 : Int) ^ 24 = 16777216 := by decide
   have a3 := pow_pos2 k
   rw [Int.add_mul, Int.one_mul] at g2
   exact ⟨wr_id (by omega) (by omega), wr_id (by omega) (by omega), by omega, by omega⟩
 obtain ⟨r1, r2, r3, r4⟩ := one n1 k1 hk1 hn1 p1 p2
 obtain ⟨s1, s2, s3, s4⟩ := one n2 k2 hk2 hn2 q1 q2
 have hb1' : H3.blk H.next = some [.int .i64 n1, .int .i64 (k1 : Int)] := by rw [hx13.blk _ hlt]; exact hb1
 have hb2' : H3.blk r = some [.int .i64 n2, .int .i64 (k2 : Int)] := by rw [hx13.blk _ hlt2]; exact hb2
 refine s_skip1 ?_
 simp +decide only [pqn]
 refine s_reg ?_
 simp only [o_pure, o_callN, POp.ev, Opd.ev, gv, setD, List.map, xsj, xel, load1V, fadV, xgz, xgs, Nat.zero_add, cell_blk hb1']
 refine (Ints.power_ok _ k1 H3 (by omega)).use ?_
 rintro _ HH ⟨rfl, hh⟩ _
 subst HH
 simp only [o_cont, o_pure, o_callF, POp.ev, Opd.ev, gv, setD, List.map, xms, xsj, xel, binV, ne_eq, xnt, if_false, r1, r2, fill2d]
 refine (dyAt_ok lim (n1 - p * 2 ^ k1) k1 H3 (by omega) hk1 r3 r4).mono ?_
 rintro _ H4 ⟨rfl, hx4⟩
 have hn4 := hx4.next
 have hb2'' : H4.blk r = some [.int .i64 n2, .int .i64 (k2 : Int)] := by rw [hx4.blk _ (by omega)]; exact hb2'
 simp only [o_cont, o_pure, o_nil, POp.ev, Opd.ev, gv, setD, List.set, xsj, xel, extV, List.getElem?_toArray, xgz, xgs]
 refine s_reg ?_
 simp only [o_pure, o_callN, POp.ev, Opd.ev, gv, setD, List.map, xsj, xel, load1V, fadV, xgz, xgs, Nat.zero_add, cell_blk hb2'']
 refine (Ints.power_ok _ k2 H4 (by omega)).use ?_
 rintro _ HH ⟨rfl, hh⟩ _
 subst HH
 simp only [o_cont, o_pure, o_callF, POp.ev, Opd.ev, gv, setD, List.map, xms, xsj, xel, binV, ne_eq, xnt, if_false, s1, s2, fill2d]
 refine (dyAt_ok lim (n2 - p * 2 ^ k2) k2 H4 (by omega) hk2 s3 s4).mono ?_
 rintro _ H5 ⟨rfl, hx5⟩
 simp only [o_cont, o_pure, o_nil, POp.ev, Opd.ev, gv, setD, List.set, xsj, xel, extV, List.getElem?_toArray, xgz, xgs]
 have big : ∀ (n : Int) (k : Nat), k ≤ 24 → 0 ≤ n → n ≤ 2 ^ k → 0 ≤ n * 2 ^ (24 - k) ∧ n * 2 ^ (24 - k) ≤ 16777216 := by
   intro n k hk g0 g1
   have a1 := pow_pos2 (24 - k)
   have a2 : n * 2 ^ (24 - k) ≤ 2 ^ k * 2 ^ (24 - k) := Int.mul_le_mul_of_nonneg_right g1 (by omega)
   rw [← Int.pow_add, show k + (24 - k) = 24 by omega] at a2
   have a3 : (2 : Int) ^ 24 = 16777216 := by decide
   exact ⟨Int.mul_nonneg g0 (by omega), by omega⟩
 obtain ⟨b1, b2⟩ := big _ k1 hk1 r3 r4
 obtain ⟨c1, c2⟩ := big _ k2 hk2 s3 s4
 have wxy : IntKind.i64.wrap ((n1 - p * 2 ^ k1) * 2 ^ (24 - k1) - (n2 - p * 2 ^ k2) * 2 ^ (24 - k2)) = (n1 - p * 2 ^ k1) * 2 ^ (24 - k1) - (n2 - p * 2 ^ k2) * 2 ^ (24 - k2) := wr_id (by omega) (by omega)
 refine s_reg ?_
 simp only [o_pure, o_callF, POp.ev, Opd.ev, gv, setD, List.map, xsj, xel, binV, ne_eq, xnt, if_false, wxy]
 refine (l1Sign_ok _ _ _).eq ?_
 simp only [o_cont, o_pure, o_nil, POp.ev, Opd.ev, gv, setD, List.set, xsj, xel]
 refine s_ret1 ?_
 simp +decide only [pfr, resV, resOne, gv, xsj, xel]
 refine ⟨?_, ((hx0.trans hx13).trans hx4).trans hx5⟩
 have hc : (0 : Int) < 2 ^ k1 * 2 ^ k2 := Int.mul_pos (by have := pow_pos2 k1; omega) (by have := pow_pos2 k2; omega)
 have hd : (0 : Int) < 2 ^ 24 := by decide
 have e1 : (2 : Int) ^ k1 * 2 ^ (24 - k1) = 2 ^ 24 := by rw [← Int.pow_add, show k1 + (24 - k1) = 24 by omega]
 have e2 : (2 : Int) ^ k2 * 2 ^ (24 - k2) = 2 ^ 24 := by rw [← Int.pow_add, show k2 + (24 - k2) = 24 by omega]
 rw [← sgn3_mul hc ((n1 - p * 2 ^ k1) * 2 ^ (24 - k1) - (n2 - p * 2 ^ k2) * 2 ^ (24 - k2)), ← sgn3_mul hd (n1 * 2 ^ k2 - n2 * 2 ^ k1)]
 have key : (2 : Int) ^ k1 * 2 ^ k2 * ((n1 - p * 2 ^ k1) * 2 ^ (24 - k1) - (n2 - p * 2 ^ k2) * 2 ^ (24 - k2)) = 2 ^ 24 * (n1 * 2 ^ k2 - n2 * 2 ^ k1) := by
   have f1 : (2 : Int) ^ k1 * 2 ^ k2 * ((n1 - p * 2 ^ k1) * 2 ^ (24 - k1)) = 2 ^ 24 * ((n1 - p * 2 ^ k1) * 2 ^ k2) := by
     rw [← e1]
     simp only [Int.mul_assoc, Int.mul_comm, Int.mul_left_comm]
   have f2 : (2 : Int) ^ k1 * 2 ^ k2 * ((n2 - p * 2 ^ k2) * 2 ^ (24 - k2)) = 2 ^ 24 * ((n2 - p * 2 ^ k2) * 2 ^ k1) := by
     rw [← e2]
     simp only [Int.mul_assoc, Int.mul_comm, Int.mul_left_comm]
   rw [Int.mul_sub, f1, f2, ← Int.mul_sub]
   congr 1
   rw [Int.sub_mul, Int.sub_mul, Int.mul_assoc, Int.mul_assoc, Int.mul_comm (2 ^ k1) (2 ^ k2)]
   omega
 rw [key]
theorem dyGood_ok (lim : Nat) (n : Int) (k : Nat) (H : AHeap) (hk : k ≤ 24) (hn : n.natAbs ≤ 1099511627776) (ho : k = 0 ∨ n.tmod 2 ≠ 0) :
   ACalls Tryz.prog lim n_spec_dyGood [dyV n k] H fun v H' => v = .bool true ∧ Ext H H' := by
 refine is_spec_dyGood.go rfl ?_
 unfold c_spec_dyGood dyV
 refine s_reg ?_
 simp only [o_pure, o_eff, o_nil, POp.ev, Opd.ev, EOp.ev, env0, gu, gv, setD, List.set, xms, xsj, xel, boxH, cellsV]
 have hx := Ext.alloc H [.int .i64 n, .int .i64 (k : Int)]
 have hb : (H.alloc [.int .i64 n, .int .i64 (k : Int)]).blk H.next = some [.int .i64 n, .int .i64 (k : Int)] := alloc_new _ _
 generalize H.alloc [.int .i64 n, .int .i64 (k : Int)] = H1 at hx hb ⊢
 have i1 : (decide ((0 : Int) ≤ (k : Int)) && decide ((k : Int) ≤ 24)) = true := by simp; omega
 have i2 : (decide (-1099511627776 ≤ n) && decide (n ≤ 1099511627776)) = true := by simp; omega
 have e2 : ¬ ((2 : Int) = 0) := by decide
 refine s_reg ?_
 simp only [o_pure, o_callF, POp.ev, Opd.ev, gv, setD, List.map, xsj, xel, load1V, fadV, xgz, xgs, Nat.zero_add, cell_blk hb]
 refine (Ints.l1In_ok _ _ _ _ _).eq ?_
 rw [i1]
 simp only [o_cont, o_pure, o_callF, o_guard, gk_tt, POp.ev, Opd.ev, gv, setD, List.map, xsj, xel, load1V, fadV, xgz, Nat.zero_add, cell_blk hb]
 refine (Ints.l1In_ok _ _ _ _ _).eq ?_
 rw [i2]
 by_cases h0 : k = 0
 · have d0 : ((k : Int) == 0) = true := by simp; omega
   simp only [o_cont, o_pure, o_guard, gk_tt, gk_tf, o_nil, POp.ev, Opd.ev, gv, setD, List.set, xsj, xel, pickV, binV, load1V, fadV, ne_eq, xnt, if_false, xgz, xgs, Nat.zero_add, cell_blk hb, d0]
   refine s_ret1 ?_
   simp +decide only [pfr, resV, resOne, gv, xsj, xel]
   exact ⟨trivial, hx⟩
 · have d0 : ((k : Int) == 0) = false := by simp; omega
   have d1 : (n.tmod 2 != 0) = true := by simpa using ho.resolve_left h0
   simp only [o_cont, o_pure, o_guard, gk_tt, gk_ff, o_nil, POp.ev, Opd.ev, gv, setD, List.set, xsj, xel, pickV, binV, load1V, fadV, ne_eq, xnt, if_false, xgz, xgs, Nat.zero_add, cell_blk hb, d0, e2, d1]
   refine s_ret1 ?_
   simp +decide only [pfr, resV, resOne, gv, xsj, xel]
   exact ⟨trivial, hx⟩
theorem odd_of {n : Int} (hn : n.tmod 2 ≠ 0) : n % 2 = 1 := by
 rcases Int.emod_two_eq n with h | h
 · exact absurd (Int.tmod_eq_zero_of_dvd (Int.dvd_of_emod_eq_zero h)) hn
 · exact h
def Low (n : Int) (k : Nat) (N : Int) (K : Nat) : Prop := n * 2 ^ K = N * 2 ^ k ∧ K ≤ k ∧ N.natAbs ≤ n.natAbs
theorem low_norm {n N : Int} {k K : Nat} (h : Low n k N K) (ho : K = 0 ∨ N.tmod 2 ≠ 0) : dnorm n k = (N, K) := by
 obtain ⟨h1, h2, _⟩ := h
 have e : N * 2 ^ k = N * 2 ^ (k - K) * 2 ^ K := by rw [Int.mul_assoc, ← Int.pow_add, show k - K + K = k by omega]
 rw [e] at h1
 have := pow_pos2 K
 rw [dnorm_up h2 (Int.eq_of_mul_eq_mul_right (by omega) h1)]
 exact dnorm_self (ho.imp id odd_of)
theorem dyMake_ok (lim : Nat) (n : Int) (k : Nat) (H : AHeap) (hl : lim ≤ H.next) (hk : k ≤ 24) (hn : n.natAbs ≤ 1099511627776) :
   ACalls Tryz.prog lim n_spec_dyMake [.int .i64 n, .int .i64 k] H fun v H' => (∃ N K, v = .tuple #[dyV N K, .bool true] ∧ dnorm n k = (N, K)) ∧ Ext H H' := by
 refine is_spec_dyMake.go rfl ?_
 unfold c_spec_dyMake
 refine s_reg ?_
 simp only [o_pure, o_eff, o_nil, POp.ev, Opd.ev, EOp.ev, env0, gu, setD, List.set, xsj, xel]
 have hx := Ext.alloc H [.int .i64 0, .int .i64 0]
 have hr : (H.alloc [.int .i64 0, .int .i64 0]).blk H.next = some [.int .i64 0, .int .i64 0] := alloc_new _ _
 have hrl : H.next < (H.alloc [.int .i64 0, .int .i64 0]).next := Nat.lt_succ_self _
 generalize H.alloc [.int .i64 0, .int .i64 0] = H1 at hx hr hrl ⊢
 generalize hre : H.next = r at *
 have e2 : ¬ ((2 : Int) = 0) := by decide
 refine s_cut (fun e' H' => ∃ K : Nat, Low n k n K ∧ (n = 0 → K = 0) ∧ H' = H1 ∧ e' = [.int .i64 n, .int .i64 (K : Int), .pointer (some ⟨r, 0, none⟩), .bool false, undef]) ?_ ?_
 · refine s_test1_same (decide (n = 0) && decide (0 < (k : Int))) ?_ (fun hg => ?_) (fun hg => ?_)
   · by_cases h0 : n = 0
     · have d0 : (n == 0) = true := by simpa using h0
       simp only [o_pure, o_guard, gk_tt, o_nil, POp.ev, Opd.ev, gv, setD, xsj, xel, pickV, binV, ne_eq, xnt, if_false, d0]
       simp [h0]
     · have d0 : (n == 0) = false := by simpa using h0
       simp only [o_pure, o_guard, gk_ft, o_nil, POp.ev, Opd.ev, gv, setD, xsj, xel, pickV, binV, ne_eq, xnt, if_false, d0]
       simp [h0]
   · simp only [Bool.and_eq_true, decide_eq_true_eq] at hg
     refine s_reg1 ?_
     simp only [o_pure, o_nil, POp.ev, Opd.ev, setD, List.set, xsj, xel]
     simp +decide only [pqn]
     refine ⟨0, ⟨by rw [hg.1]; simp, by omega, Nat.le_refl _⟩, fun _ => rfl, trivial, rfl⟩
   · refine s_skip1 ?_
     simp +decide only [pqn]
     refine ⟨k, ⟨rfl, Nat.le_refl _, Nat.le_refl _⟩, fun h0 => ?_, trivial, rfl⟩
     subst h0
     simp at hg
     omega
 rintro e' H2 ⟨K0, hK0, hz0, rfl, rfl⟩
 refine s_block ?_
 refine s_loop1 (fun j e' H' => ∃ (N : Int) (K : Nat), K = j ∧ Low n k N K ∧ H' = H2 ∧ e' = [.int .i64 N, .int .i64 (K : Int), .pointer (some ⟨r, 0, none⟩), .bool false, undef]) K0 ⟨n, K0, rfl, hK0, rfl, rfl⟩ ?_
 clear hK0 hz0
 rintro j e' H2 ⟨N, K, rfl, hK, rfl, rfl⟩
 obtain ⟨h1, h2, h3⟩ := hK
 refine s_test_same (decide (0 < (K : Int)) && (N.tmod 2 == 0)) ?_ (fun hg => ?_) (fun hg => ?_)
 · by_cases h0 : 0 < (K : Int)
   · have d0 : decide ((K : Int) > 0) = true := by simpa using h0
     simp only [o_pure, o_guard, gk_tt, o_nil, POp.ev, Opd.ev, gv, setD, xsj, xel, pickV, binV, ne_eq, xnt, if_false, d0, e2]
     simp [h0]
   · have d0 : decide ((K : Int) > 0) = false := by simpa using h0
     simp only [o_pure, o_guard, gk_ft, o_nil, POp.ev, Opd.ev, gv, setD, xsj, xel, pickV, binV, ne_eq, xnt, if_false, d0]
     simp [h0]
 · simp only [Bool.and_eq_true, decide_eq_true_eq, beq_iff_eq] at hg
   obtain ⟨K', rfl⟩ : ∃ K', K = K' + 1 := ⟨K - 1, by omega⟩
   have t1 := Int.mul_tdiv_add_tmod N 2
   have t4 : (N.tdiv 2).natAbs ≤ N.natAbs := by
     rw [Int.natAbs_tdiv]
     exact Nat.div_le_self _ _
   obtain ⟨M, hM⟩ : ∃ M, N.tdiv 2 = M := ⟨_, rfl⟩
   rw [hM] at t1 t4
   have w1 : IntKind.i64.wrap M = M := wr_id (by omega) (by omega)
   have w2 : IntKind.i64.wrap (((K' + 1 : Nat) : Int) - 1) = (K' : Int) := by rw [show ((K' + 1 : Nat) : Int) - 1 = (K' : Int) by omega]; exact wr_nat (by omega)
   refine s_skip1 ?_
   simp +decide only [pqn]
   refine s_block1 ?_
   refine s_reg ?_
   simp only [o_pure, o_nil, POp.ev, Opd.ev, gv, setD, List.set, xsj, xel, binV, ne_eq, xnt, if_false, e2, hM, w1]
   refine s_reg1 ?_
   simp only [o_pure, o_nil, POp.ev, Opd.ev, gv, setD, List.set, xsj, xel, binV, ne_eq, xnt, if_false, w2]
   simp +decide only [pqn, pbn]
   refine Round.mk K' (by omega) ⟨M, K', rfl, ⟨?_, by omega, by omega⟩, rfl, rfl⟩
   have e : N = 2 * M := by omega
   have e3 : n * 2 ^ (K' + 1) = 2 * (n * 2 ^ K') := by rw [Int.pow_succ, Int.mul_comm (2 ^ K') 2, Int.mul_left_comm]
   have e4 : 2 * M * 2 ^ k = 2 * (M * 2 ^ k) := Int.mul_assoc _ _ _
   rw [e, e3, e4] at h1
   omega
 · refine s_exit1 ?_
   simp +decide only [pqn, pqe, pbe, reduceIte]
   have ho : K = 0 ∨ N.tmod 2 ≠ 0 := by
     simp only [Bool.and_eq_false_iff, decide_eq_false_iff_not, beq_eq_false_iff_ne] at hg
     rcases hg with hg | hg
     · left; omega
     · right; simpa using hg
   have hnx := hx.next
   refine s_reg ?_
   simp only [o_pure, o_eff, o_nil, POp.ev, Opd.ev, EOp.ev, gv, setD, List.set, List.map, xms, xsj, xel, fill2d]
   have hst : storeH lim (H2.alloc [.int .i64 0, .int .i64 0]) 2 (.pointer (some ⟨H2.next, 0, none⟩)) (.agg #[vi N, vi (K : Int)]) = some (undef, (H2.alloc [.int .i64 0, .int .i64 0]).put H2.next [vi N, vi (K : Int)]) := store2 (by omega) (alloc_new _ _)
   simp only [xsj, xel, hst]
   have hx2 : Ext H2 ((H2.alloc [.int .i64 0, .int .i64 0]).put H2.next [vi N, vi (K : Int)]) := Chg.ext (Ext.alloc _ _) (Chg.put _ _ _) (Nat.le_refl _)
   have ho4 : ((H2.alloc [.int .i64 0, .int .i64 0]).put H2.next [vi N, vi (K : Int)]).blk H2.next = some [vi N, vi (K : Int)] := put_same _ _ _
   have hl4 : H2.next < ((H2.alloc [.int .i64 0, .int .i64 0]).put H2.next [vi N, vi (K : Int)]).next := Nat.lt_succ_self _
   generalize (H2.alloc [.int .i64 0, .int .i64 0]).put H2.next [vi N, vi (K : Int)] = H3 at hx2 ho4 hl4 ⊢
   refine s_test ?_
   simp only [o_pure, o_callF, POp.ev, Opd.ev, gv, setD, List.map, xsj, xel, load2 ho4]
   refine (dyGood_ok lim N K H3 (by omega) (by omega) ho).mono ?_
   rintro _ H4 ⟨rfl, hx4⟩
   have ho5 : H4.blk H2.next = some [vi N, vi (K : Int)] := by rw [hx4.blk _ hl4]; exact ho4
   have hr4 : H4.blk r = some [.int .i64 0, .int .i64 0] := by rw [(hx2.trans hx4).blk _ hrl]; exact hr
   simp only [o_cont, o_pure, o_nil, POp.ev, Opd.ev, gv, setD, xsj, xel, unV, Bool.not_true]
   refine Test.false_ (s_skip1 ?_)
   simp +decide only [pqn]
   refine s_reg ?_
   simp only [o_pure, o_eff, o_nil, POp.ev, Opd.ev, EOp.ev, gv, setD, List.set, xsj, xel, load2 ho5, store2 (lim := lim) (show lim ≤ r by omega) hr4]
   refine s_ret1 ?_
   simp +decide only [pfr, resV, resOne, resL, gv, xsj, xel, Option.bind_some, xms, load2 (put_same _ _ _)]
   exact ⟨⟨N, K, rfl, low_norm ⟨h1, h2, h3⟩ ho⟩, Chg.ext ((hx.trans hx2).trans hx4) (Chg.put _ _ _) (by omega)⟩
def pc (l : List Int) : List Value := l.flatMap fun n => [vi n, vi 0]
theorem pc_cons (n : Int) (l : List Int) : pc (n :: l) = [vi n, vi 0] ++ pc l := rfl
theorem pc_length (l : List Int) : (pc l).length = l.length * 2 := by
 induction l with
 | nil => rfl
 | cons n l ih => rw [pc_cons, List.length_append, ih, List.length_cons]; simp; omega
theorem pc_at : ∀ {l : List Int} {i : Nat} {n : Int}, l[i]? = some n → ((pc l).drop (i * 2)).take 2 = [vi n, vi 0]
 | [], i, n, h => by simp at h
 | a :: l, 0, n, h => by
   simp only [xgz, xsj] at h
   subst h
   rfl
 | a :: l, i + 1, n, h => by
   have e : (pc (a :: l)).drop ((i + 1) * 2) = (pc l).drop (i * 2) := by
     rw [pc_cons, List.drop_append, List.drop_of_length_le (by simp; omega), List.nil_append]
     congr 1
     simp; omega
   rw [e]
   exact pc_at (by simpa using h)
theorem pc_set : ∀ {l : List Int} {i : Nat} (n : Int), i < l.length → putL (pc l) (i * 2) [vi n, vi 0] = pc (l.set i n)
 | [], i, n, h => by simp at h
 | a :: l, 0, n, h => by simp [putL, pc_cons]
 | a :: l, i + 1, n, h => by
   rw [List.set_cons_succ, pc_cons, pc_cons, show (i + 1) * 2 = ([vi a, vi 0] : List Value).length + i * 2 by simp; omega, putL_shift, pc_set n (by simpa using h)]
abbrev SlP (H : AHeap) (v : Value) (l : List Int) : Prop := Sl H v l.length 2 (pc l)
abbrev VecP (H : AHeap) (b : Nat) (v : Value) (l : List Int) : Prop := Vec H b v l.length 2 (pc l)
structure AtP (H : AHeap) (b o : Nat) (n : Int) : Prop where
 lt : b < H.next
 all : loadNV H 2 (.pointer (some ⟨b, o, none⟩)) = some (.agg #[vi n, vi 0])
 n : H.cell b o = some (vi n)
 k : H.cell b (o + 1) = some (vi 0)
theorem AtP.of_load {H : AHeap} {b o : Nat} {n : Int} (hb : b < H.next) (h : loadNH H b o 2 = some [vi n, vi 0]) : AtP H b o n := by
 have hc : ∀ j, j < 2 → H.cell b (o + j) = ([vi n, vi 0] : List Value)[j]? := by
   intro j hj
   unfold loadNH at h
   unfold AHeap.cell
   cases hbk : H.blk b with
   | none => rw [hbk] at h; cases h
   | some cs =>
     rw [hbk] at h
     simp only [Option.bind_some] at h ⊢
     split at h
     · simp only [xsj] at h
       have h4 := congrArg (fun z => z[j]?) h
       simp only [List.getElem?_take, List.getElem?_drop, if_pos hj] at h4
       exact h4
     · cases h
 exact ⟨hb, by simp only [loadNV, h, xms], hc 0 (by omega), hc 1 (by omega)⟩
theorem SlP.ext {H H' : AHeap} {v : Value} {l : List Int} (h : SlP H v l) (hx : Ext H H') : SlP H' v l := Sl.keep h (Keep.of_ext hx (Nat.le_refl _)) (Nat.le_refl _)
theorem VecP.ext {H H' : AHeap} {b : Nat} {v : Value} {l : List Int} (h : VecP H b v l) (hx : Ext H H') : VecP H' b v l := Vec.ext h hx
theorem SlP.at {H : AHeap} {s : Value} {l : List Int} (h : SlP H s l) {i : Nat} (hi : i < l.length) : ∃ b o, iadV 2 s (.int .i64 i) = some (.pointer (some ⟨b, o, none⟩)) ∧ AtP H b o l[i] := by
 obtain ⟨b, o, h1, h2, h3⟩ := Sl.iad h .i64 (i := (i : Int)) (by omega) (by omega)
 have e : (i : Int).toNat = i := by omega
 rw [e, pc_at (List.getElem?_eq_getElem hi)] at h3
 exact ⟨b, o, h1, AtP.of_load h2 h3⟩
theorem VecP.at {H : AHeap} {b : Nat} {v : Value} {l : List Int} (h : VecP H b v l) {i : Nat} (hi : i < l.length) : iadV 2 v (.int .i64 i) = some (.pointer (some ⟨b, i * 2, none⟩)) ∧ AtP H b (i * 2) l[i] := by
 refine ⟨Vec.iad h .i64 hi, AtP.of_load ((h.blk (by omega)).elim fun _ h => h.2) ?_⟩
 have := h.loadN hi
 rw [pc_at (List.getElem?_eq_getElem hi)] at this
 exact this
theorem VecP.put {lim : Nat} {H : AHeap} {b : Nat} {v : Value} {l : List Int} (h : VecP H b v l) (hl : lim ≤ b) {i : Nat} (hi : i < l.length) (n : Int) :
   ∃ cs, storeH lim H 2 (.pointer (some ⟨b, i * 2, none⟩)) (.agg #[vi n, vi 0]) = some (undef, H.put b cs) ∧ VecP (H.put b cs) b v (l.set i n) := by
 obtain ⟨cs, h1, h2⟩ := Vec.put (lim := lim) h hl (x := .agg #[vi n, vi 0]) (xs := [vi n, vi 0]) rfl rfl (by simp) (o := i * 2) (by simp; omega)
 rw [pc_set n hi] at h2
 exact ⟨cs, h1, by unfold VecP; rw [List.length_set]; exact h2⟩
theorem two2 {b : Nat} {H : AHeap} {x y : Value} (h : H.blk b = some [x, y]) : H.cell b 0 = some x ∧ H.cell b 1 = some y := by
 constructor <;> simp [AHeap.cell, h]
theorem dyAt0_ok (lim : Nat) (n : Int) (H : AHeap) (hl : lim ≤ H.next) : ACalls Tryz.prog lim n_spec_dyAt [dyV n 0, .int .i64 0] H fun v H' => v = .tuple #[.int .i64 n, .bool true] ∧ Ext H H' := by
 refine is_spec_dyAt.go rfl ?_
 unfold c_spec_dyAt dyV
 refine s_reg ?_
 simp only [o_pure, o_eff, o_nil, POp.ev, Opd.ev, EOp.ev, env0, gu, gv, setD, List.set, xms, xsj, xel, boxH, cellsV]
 have hx := Ext.alloc H [.int .i64 n, .int .i64 ((0 : Nat) : Int)]
 have hb : (H.alloc [.int .i64 n, .int .i64 ((0 : Nat) : Int)]).blk H.next = some [.int .i64 n, .int .i64 ((0 : Nat) : Int)] := alloc_new _ _
 generalize H.alloc [.int .i64 n, .int .i64 ((0 : Nat) : Int)] = H1 at hx hb ⊢
 obtain ⟨c0, c1⟩ := two2 hb
 refine s_test_same (n == 0) ?_ (fun hg => ?_) (fun hg => ?_)
 · simp only [o_pure, o_nil, POp.ev, Opd.ev, gv, setD, xsj, xel, binV, load1V, fadV, ne_eq, xnt, if_false, Nat.zero_add, c0]
   simp
 · refine s_reg ?_
   simp only [o_pure, o_nil, POp.ev, Opd.ev, setD, List.set, xsj, xel]
   refine s_ret1 ?_
   simp +decide only [pqr, pfr, resV, resOne, resL, gv, xsj, xel, Option.bind_some, xms]
   have : n = 0 := by simpa using hg
   subst this
   exact ⟨rfl, hx⟩
 · refine s_skip1 ?_
   simp +decide only [pqn]
   refine s_assoc (s_reg ?_)
   simp only [o_pure, o_nil, POp.ev, Opd.ev, gv, setD, List.set, xsj, xel, load1V, fadV, Nat.zero_add, c1]
   refine s_block ?_
   refine s_loop1 (fun k e' H' => H' = H1 ∧ e' = [.agg #[.int .i64 n, .int .i64 ((0 : Nat) : Int)], .int .i64 0, .pointer (some ⟨H.next, 0, none⟩), .int .i64 0, .bool false, .int .i64 ((0 : Nat) : Int)]) 0 ⟨rfl, rfl⟩ ?_
   rintro k e' H' ⟨rfl, rfl⟩
   refine s_test ?_
   simp only [o_pure, o_nil, POp.ev, Opd.ev, gv, setD, xsj, xel, binV, ne_eq, xnt, if_false]
   refine Test.split (fun hlt => ?_) (fun hlt => ?_)
   · simp at hlt
   · refine s_exit1 ?_
     simp +decide only [pqn, pqe, pbe, reduceIte]
     refine s_reg ?_
     simp only [o_pure, o_nil, POp.ev, Opd.ev, gv, setD, List.set, xsj, xel, load1V, fadV, Nat.zero_add, c0]
     refine s_ret1 ?_
     simp +decide only [pfr, resV, resOne, resL, gv, xsj, xel, Option.bind_some, xms]
     exact ⟨trivial, hx⟩
theorem dyTwo0_ok (lim : Nat) (a b : Int) (H : AHeap) (hl : lim ≤ H.next) (ha : a.natAbs ≤ 1099511627776) (hb : b.natAbs ≤ 1099511627776) : ACalls Tryz.prog lim n_spec_dyTwo [dyV a 0, dyV b 0] H fun v H' => v = .bool true ∧ Ext H H' := by
 refine is_spec_dyTwo.go rfl ?_
 unfold c_spec_dyTwo
 refine s_reg ?_
 simp only [o_pure, o_eff, o_nil, POp.ev, Opd.ev, EOp.ev, env0, gu, gv, setD, List.set, xms, xsj, xel, boxH, cellsV, dyV]
 have hx := Ext.alloc H [.int .i64 a, .int .i64 ((0 : Nat) : Int)]
 have hb1 : (H.alloc [.int .i64 a, .int .i64 ((0 : Nat) : Int)]).blk H.next = some [.int .i64 a, .int .i64 ((0 : Nat) : Int)] := alloc_new _ _
 have hn1 : (H.alloc [.int .i64 a, .int .i64 ((0 : Nat) : Int)]).next = H.next + 1 := rfl
 generalize H.alloc [.int .i64 a, .int .i64 ((0 : Nat) : Int)] = H1 at hx hb1 hn1 ⊢
 have hx1 := Ext.alloc H1 [.int .i64 b, .int .i64 ((0 : Nat) : Int)]
 have hb2 : (H1.alloc [.int .i64 b, .int .i64 ((0 : Nat) : Int)]).blk H1.next = some [.int .i64 b, .int .i64 ((0 : Nat) : Int)] := alloc_new _ _
 have hn2 : (H1.alloc [.int .i64 b, .int .i64 ((0 : Nat) : Int)]).next = H1.next + 1 := rfl
 generalize H1.alloc [.int .i64 b, .int .i64 ((0 : Nat) : Int)] = H2 at hx1 hb2 hn2 ⊢
 have hb1' : H2.blk H.next = some [.int .i64 a, .int .i64 ((0 : Nat) : Int)] := by rw [hx1.blk _ (by omega)]; exact hb1
 refine s_reg ?_
 simp only [o_pure, o_callF, POp.ev, Opd.ev, gv, setD, List.map, xsj, xel, load2 hb1']
 refine (dyGood_ok lim a 0 H2 (by omega) ha (.inl rfl)).mono ?_
 rintro _ H3 ⟨rfl, hx3⟩
 have hb2' : H3.blk H1.next = some [.int .i64 b, .int .i64 ((0 : Nat) : Int)] := by rw [hx3.blk _ (by omega)]; exact hb2
 simp only [o_cont, o_pure, o_callF, o_guard, gk_tt, POp.ev, Opd.ev, gv, setD, List.map, xsj, xel, load2 hb2']
 refine (dyGood_ok lim b 0 H3 (by omega) hb (.inl rfl)).mono ?_
 rintro _ H4 ⟨rfl, hx4⟩
 simp only [o_cont, o_pure, o_nil, POp.ev, Opd.ev, gv, setD, List.set, xsj, xel, pickV]
 refine s_ret1 ?_
 simp +decide only [pfr, resV, resOne, gv, xsj, xel]
 exact ⟨trivial, hx.trans (hx1.trans (hx3.trans hx4))⟩
theorem dyAdd0_ok (lim : Nat) (a b : Int) (H : AHeap) (hl : lim ≤ H.next) (ha : a.natAbs ≤ 1000000) (hb : b.natAbs ≤ 1000000) : ACalls Tryz.prog lim n_spec_dyAdd [dyV a 0, dyV b 0] H fun v H' => v = .tuple #[.agg #[vi (a + b), vi 0], .bool true] ∧ Ext H H' := by
 refine is_spec_dyAdd.go rfl ?_
 unfold c_spec_dyAdd
 refine s_reg ?_
 simp only [o_pure, o_eff, o_nil, POp.ev, Opd.ev, EOp.ev, env0, gu, gv, setD, List.set, xms, xsj, xel, boxH, cellsV, dyV]
 have hx := Ext.alloc H [.int .i64 a, .int .i64 ((0 : Nat) : Int)]
 have hb1 : (H.alloc [.int .i64 a, .int .i64 ((0 : Nat) : Int)]).blk H.next = some [.int .i64 a, .int .i64 ((0 : Nat) : Int)] := alloc_new _ _
 have hn1 : (H.alloc [.int .i64 a, .int .i64 ((0 : Nat) : Int)]).next = H.next + 1 := rfl
 generalize H.alloc [.int .i64 a, .int .i64 ((0 : Nat) : Int)] = H1 at hx hb1 hn1 ⊢
 have hx1 := Ext.alloc H1 [.int .i64 b, .int .i64 ((0 : Nat) : Int)]
 have hb2 : (H1.alloc [.int .i64 b, .int .i64 ((0 : Nat) : Int)]).blk H1.next = some [.int .i64 b, .int .i64 ((0 : Nat) : Int)] := alloc_new _ _
 have hn2 : (H1.alloc [.int .i64 b, .int .i64 ((0 : Nat) : Int)]).next = H1.next + 1 := rfl
 generalize H1.alloc [.int .i64 b, .int .i64 ((0 : Nat) : Int)] = H2 at hx1 hb2 hn2 ⊢
 have hx2 := Ext.alloc H2 [.int .i64 0, .int .i64 0]
 have hb3 : (H2.alloc [.int .i64 0, .int .i64 0]).blk H2.next = some [.int .i64 0, .int .i64 0] := alloc_new _ _
 have hn3 : (H2.alloc [.int .i64 0, .int .i64 0]).next = H2.next + 1 := rfl
 generalize H2.alloc [.int .i64 0, .int .i64 0] = H3 at hx2 hb3 hn3 ⊢
 have g1 : H3.blk H.next = some [.int .i64 a, .int .i64 ((0 : Nat) : Int)] := by rw [hx2.blk _ (by omega), hx1.blk _ (by omega)]; exact hb1
 have g2 : H3.blk H1.next = some [.int .i64 b, .int .i64 ((0 : Nat) : Int)] := by rw [hx2.blk _ (by omega)]; exact hb2
 have h03 := hx.trans (hx1.trans hx2)
 refine s_reg ?_
 simp only [o_pure, o_callF, POp.ev, Opd.ev, gv, setD, List.map, xsj, xel, load1V, fadV, Nat.zero_add, (two2 g1).2, (two2 g2).2]
 refine (l1Most_ok _ _ _ _).eq ?_
 simp only [o_cont, o_pure, o_nil, POp.ev, Opd.ev, gv, setD, List.set, xsj, xel]
 refine s_reg ?_
 simp only [o_pure, o_callF, POp.ev, Opd.ev, gv, setD, List.map, xsj, xel, load2 g1]
 refine (dyAt0_ok lim a H3 (by omega)).mono ?_
 rintro _ H4 ⟨rfl, hx4⟩
 have g2' : H4.blk H1.next = some [.int .i64 b, .int .i64 ((0 : Nat) : Int)] := by rw [hx4.blk _ (by omega)]; exact g2
 have hn4 := hx4.next
 simp only [o_cont, o_pure, o_nil, POp.ev, Opd.ev, gv, setD, List.set, xsj, xel, extV, List.getElem?_toArray, xgz, xgs]
 refine s_reg ?_
 simp only [o_pure, o_callF, POp.ev, Opd.ev, gv, setD, List.map, xsj, xel, load2 g2']
 refine (dyAt0_ok lim b H4 (by omega)).mono ?_
 rintro _ H5 ⟨rfl, hx5⟩
 have hn5 := hx5.next
 simp only [o_cont, o_pure, o_nil, POp.ev, Opd.ev, gv, setD, List.set, xsj, xel, extV, List.getElem?_toArray, xgz, xgs]
 refine s_test_same false ?_ (fun hg => absurd hg (by decide)) (fun _ => ?_)
 · simp only [o_pure, o_guard, gk_ff, o_nil, POp.ev, Opd.ev, gv, setD, xsj, xel, pickV, unV, Bool.not_true]
   simp
 refine s_skip1 ?_
 simp +decide only [pqn, reduceIte]
 refine s_reg ?_
 have hw : IntKind.i64.wrap (a + b) = a + b := wr_id (by omega) (by omega)
 simp only [o_pure, o_callF, POp.ev, Opd.ev, gv, setD, List.map, xsj, xel, binV, ne_eq, xnt, if_false, hw]
 refine (dyMake_ok lim (a + b) 0 H5 (by omega) (by omega) (by omega)).mono ?_
 rintro _ H6 ⟨⟨N, K, rfl, hd⟩, hx6⟩
 obtain ⟨rfl, rfl⟩ : a + b = N ∧ 0 = K := by
   rw [dnorm_self (.inl rfl)] at hd
   exact ⟨congrArg Prod.fst hd, congrArg Prod.snd hd⟩
 have g3 : H6.blk H2.next = some [.int .i64 0, .int .i64 0] := by rw [hx6.blk _ (by omega), hx5.blk _ (by omega), hx4.blk _ (by omega)]; exact hb3
 have hst := store2 (lim := lim) (x := .int .i64 (a + b)) (y := .int .i64 ((0 : Nat) : Int)) (by omega) g3
 simp only [o_cont, o_pure, o_eff, o_nil, POp.ev, Opd.ev, EOp.ev, gv, setD, List.set, xsj, xel, extV, List.getElem?_toArray, xgz, xgs, dyV, hst]
 refine s_ret1 ?_
 simp +decide only [pfr, resV, resOne, resL, gv, xsj, xel, Option.bind_some, xms, load2 (put_same _ _ _)]
 have hx0 := h03.trans (hx4.trans (hx5.trans hx6))
 exact ⟨rfl, Chg.ext hx0 (Chg.put _ _ _) (by omega)⟩
theorem addD_ok (lim : Nat) (a b : Int) (H : AHeap) (hl : lim ≤ H.next) (ha : a.natAbs ≤ 1000000) (hb : b.natAbs ≤ 1000000) : ACalls Tryz.prog lim n_spec_AddDyadic [.agg #[vi a, vi 0], .agg #[vi b, vi 0]] H fun v H' => v = .tuple #[.agg #[vi (a + b), vi 0], .bool true] ∧ Ext H H' := by
 refine is_spec_AddDyadic.go rfl ?_
 unfold c_spec_AddDyadic
 refine s_reg ?_
 simp only [o_pure, o_eff, o_nil, POp.ev, Opd.ev, EOp.ev, env0, gu, gv, setD, List.set, xms, xsj, xel, boxH, cellsV]
 have hx := Ext.alloc H [vi a, vi 0]
 have hb1 : (H.alloc [vi a, vi 0]).blk H.next = some [vi a, vi 0] := alloc_new _ _
 have hn1 : (H.alloc [vi a, vi 0]).next = H.next + 1 := rfl
 generalize H.alloc [vi a, vi 0] = H1 at hx hb1 hn1 ⊢
 have hx1 := Ext.alloc H1 [vi b, vi 0]
 have hb2 : (H1.alloc [vi b, vi 0]).blk H1.next = some [vi b, vi 0] := alloc_new _ _
 have hn2 : (H1.alloc [vi b, vi 0]).next = H1.next + 1 := rfl
 generalize H1.alloc [vi b, vi 0] = H2 at hx1 hb2 hn2 ⊢
 have hx2 := Ext.alloc H2 [.int .i64 0, .int .i64 0]
 have hb3 : (H2.alloc [.int .i64 0, .int .i64 0]).blk H2.next = some [.int .i64 0, .int .i64 0] := alloc_new _ _
 have hn3 : (H2.alloc [.int .i64 0, .int .i64 0]).next = H2.next + 1 := rfl
 generalize H2.alloc [.int .i64 0, .int .i64 0] = H3 at hx2 hb3 hn3 ⊢
 have g1 : H3.blk H.next = some [vi a, vi 0] := by rw [hx2.blk _ (by omega), hx1.blk _ (by omega)]; exact hb1
 have g2 : H3.blk H1.next = some [vi b, vi 0] := by rw [hx2.blk _ (by omega)]; exact hb2
 have h03 := hx.trans (hx1.trans hx2)
 refine s_test_I false (Ext H3) ?_ (fun H4 hx4 hg => absurd hg (by decide)) (fun H4 hx4 _ => ?_)
 · simp only [o_pure, o_callF, POp.ev, Opd.ev, gv, setD, List.map, xsj, xel, load2 g1, load2 g2]
   refine (dyTwo0_ok lim a b H3 (by omega) (by omega) (by omega)).mono ?_
   rintro _ H4 ⟨rfl, hx4⟩
   simp only [o_cont, o_pure, o_nil, POp.ev, Opd.ev, gv, setD, xsj, xel, unV, Bool.not_true]
   exact ⟨trivial, trivial, hx4⟩
 refine s_skip1 ?_
 simp +decide only [pqn]
 have hn4 := hx4.next
 have g1' : H4.blk H.next = some [vi a, vi 0] := by rw [hx4.blk _ (by omega)]; exact g1
 have g2' : H4.blk H1.next = some [vi b, vi 0] := by rw [hx4.blk _ (by omega)]; exact g2
 refine s_reg ?_
 simp only [o_pure, o_callF, POp.ev, Opd.ev, gv, setD, List.map, xsj, xel, load2 g1', load2 g2']
 refine (dyAdd0_ok lim a b H4 (by omega) ha hb).mono ?_
 rintro _ H5 ⟨rfl, hx5⟩
 have hn5 := hx5.next
 have g3 : H5.blk H2.next = some [.int .i64 0, .int .i64 0] := by rw [hx5.blk _ (by omega), hx4.blk _ (by omega)]; exact hb3
 have hst := store2 (lim := lim) (x := vi (a + b)) (y := vi 0) (by omega) g3
 simp only [o_cont, o_pure, o_eff, o_nil, POp.ev, Opd.ev, EOp.ev, gv, setD, List.set, xsj, xel, extV, List.getElem?_toArray, xgz, xgs, hst]
 refine s_ret1 ?_
 simp +decide only [pfr, resV, resOne, resL, gv, xsj, xel, Option.bind_some, xms, load2 (put_same _ _ _)]
 exact ⟨trivial, Chg.ext (h03.trans (hx4.trans hx5)) (Chg.put _ _ _) (by omega)⟩
open Go.Ab
theorem sgn3_lt (n : Int) : sgn3 n < 0 ↔ n < 0 := by
 unfold sgn3
 rcases Int.lt_trichotomy n 0 with h | h | h
 · rw [if_neg (by omega), if_pos h]; omega
 · rw [if_neg (by omega), if_neg (by omega)]; omega
 · rw [if_pos h]; omega
theorem ordT_lt (a b : Tm) : ordT a b < 0 ↔ a.x < b.x ∨ (a.x = b.x ∧ (a.y < b.y ∨ (a.y = b.y ∧ a.z < b.z))) := by
 unfold ordT
 by_cases h1 : a.x = b.x
 · by_cases h2 : a.y = b.y
   · rw [if_neg (by simp [h1]), if_neg (by simp [h2]), sgn3_lt]; omega
   · rw [if_neg (by simp [h1]), if_pos h2, sgn3_lt]; omega
 · rw [if_pos h1, sgn3_lt]; omega
theorem ordT_trans {a b c : Tm} (h1 : ordT a b < 0) (h2 : ordT b c < 0) : ordT a c < 0 := by
 rw [ordT_lt] at *
 omega
theorem ordT_zero (a b : Tm) : ordT a b = 0 ↔ a.x = b.x ∧ a.y = b.y ∧ a.z = b.z := by
 have h1 := ordT_lt a b
 have h2 := ordT_lt b a
 have h3 := ordT_neg a b
 omega
def insRev (t : Tm) : List Tm → List Tm
 | [] => [t]
 | x :: r => if ordT t x < 0 then x :: insRev t r else t :: x :: r
def insB (P : List Tm) (t : Tm) : List Tm := (insRev t P.reverse).reverse
theorem insB_nil (t : Tm) : insB [] t = [t] := rfl
theorem insB_lt {P : List Tm} {x t : Tm} (h : ordT t x < 0) : insB (P ++ [x]) t = insB P t ++ [x] := by
 simp [insB, insRev, h]
theorem insB_ge {P : List Tm} {x t : Tm} (h : ¬ ordT t x < 0) : insB (P ++ [x]) t = P ++ [x, t] := by
 simp [insB, insRev, h]
theorem insB_length (P : List Tm) (t : Tm) : (insB P t).length = P.length + 1 := by
 have : ∀ l : List Tm, (insRev t l).length = l.length + 1 := by
   intro l
   induction l with
   | nil => rfl
   | cons x r ih =>
     unfold insRev
     split
     · simp [ih]
     · simp
 simp [insB, this]
def isortF (P : List Tm) : List Tm → List Tm
 | [] => P
 | t :: l => isortF (insB P t) l
theorem isortF_length : ∀ (l P : List Tm), (isortF P l).length = P.length + l.length
 | [], P => by simp [isortF]
 | t :: l, P => by rw [isortF, isortF_length l, insB_length, List.length_cons]; omega
theorem swap_at {A B : List Tm} {x y : Tm} : ((A ++ x :: y :: B).set (A.length + 1) x).set A.length y = A ++ y :: x :: B := by
 rw [List.set_append_right _ _ (by omega)]
 have : A.length + 1 - A.length = 1 := by omega
 rw [this, List.set_append_right _ _ (by omega), Nat.sub_self]
 rfl
theorem VecT.swap {lim : Nat} {H : AHeap} {b : Nat} {v : Value} {A B : List Tm} {x y : Tm} (h : VecT H b v (A ++ x :: y :: B)) (hl : lim ≤ b) :
   ∃ H1 H2, storeH lim H 4 (.pointer (some ⟨b, (A.length + 1) * 4, none⟩)) (tv x) = some (undef, H1) ∧ storeH lim H1 4 (.pointer (some ⟨b, A.length * 4, none⟩)) (tv y) = some (undef, H2) ∧ VecT H2 b v (A ++ y :: x :: B) ∧ Chg b H H2 ∧ H2.next = H.next := by
 obtain ⟨cs1, h1, g1⟩ := VecT.putT (lim := lim) h hl (i := A.length + 1) (by simp) x
 obtain ⟨cs2, h2, g2⟩ := VecT.putT (lim := lim) g1 hl (i := A.length) (by simp) y
 rw [swap_at] at g2
 exact ⟨_, _, h1, h2, g2, (Chg.put b H cs1).trans (Chg.put b _ cs2), rfl⟩
theorem insSort2_ok (lim : Nat) (s : Value) (blk : Nat) (A M B : List Tm) (H : AHeap) (hs : VecT H blk s (A ++ M ++ B)) (hl : lim ≤ blk) (hb : blk < H.next ∨ M = []) (hn : (A ++ M ++ B).length ≤ 100000) :
   ACalls Tryz.prog lim n_slices_insertionSortCmpFunc_impl_Term [s, .int .i64 A.length, .int .i64 ((A.length + M.length : Nat) : Int), cmpF] H fun v H' => VecT H' blk s (A ++ isortF [] M ++ B) ∧ Chg blk H H' := by
 have hlen : A.length + M.length + B.length ≤ 100000 := by simpa [Nat.add_assoc] using hn
 refine is_slices_insertionSortCmpFunc_impl_Term.go rfl ?_
 unfold c_slices_insertionSortCmpFunc_impl_Term
 refine s_reg ?_
 simp only [o_pure, o_nil, POp.ev, Opd.ev, env0, gu, gv, setD, List.set, xsj, xel, binV, ne_eq, xnt, if_false, add1 (i := A.length) (by omega)]
 refine s_block1 ?_
 cases hM : M with
 | nil =>
   subst hM
   refine s_loop1 (fun k e' H' => H' = H ∧ e' = [s, .int .i64 A.length, .int .i64 ((A.length + ([] : List Tm).length : Nat) : Int), cmpF, .int .i64 ((A.length + 1 : Nat) : Int), undef]) 0 ⟨rfl, rfl⟩ ?_
   rintro k e' H' ⟨rfl, rfl⟩
   have hd : decide (((A.length + 1 : Nat) : Int) < ((A.length + ([] : List Tm).length : Nat) : Int)) = false := decide_eq_false (by simp; omega)
   refine s_test ?_
   simp only [o_pure, o_nil, POp.ev, Opd.ev, gv, setD, xsj, xel, binV, ne_eq, xnt, if_false, hd]
   refine Test.false_ (s_exit1 ?_)
   simp +decide only [pqe, pbe, p_fin_normal, reduceIte, resV, resL, xsj, xel, xms]
   exact ⟨by simpa [isortF] using hs, Chg.refl _ _⟩
 | cons m0 M0 =>
 rw [← hM]
 have hMl : 1 ≤ M.length := by rw [hM]; simp
 have hblk : blk < H.next := by
   rcases hb with hb | hb
   · exact hb
   · rw [hM] at hb; cases hb
 refine s_loop1 (fun k e' H' => ∃ (P R : List Tm) (x5 : Value), 1 ≤ P.length ∧ P.length + R.length = M.length ∧ R.length = k ∧ isortF P R = isortF [] M ∧ VecT H' blk s (A ++ P ++ R ++ B) ∧ Chg blk H H' ∧
   e' = [s, .int .i64 A.length, .int .i64 ((A.length + M.length : Nat) : Int), cmpF, .int .i64 ((A.length + P.length : Nat) : Int), x5]) M0.length ⟨[m0], M0, _, by simp, by rw [hM]; simp; omega, rfl, by rw [hM]; rfl, by rw [hM] at hs; simpa using hs, Chg.refl _ _, rfl⟩ ?_
 rintro k e' H' ⟨P, R, x5, hP1, hPR, hRk, hiso, hv, hc, rfl⟩
 have hnc := hc.next
 refine s_test ?_
 simp only [o_pure, o_nil, POp.ev, Opd.ev, gv, setD, xsj, xel, binV, ne_eq, xnt, if_false]
 refine Test.split (fun hlt => ?_) (fun hlt => ?_)
 · have hlt' : P.length < M.length := by simp at hlt; omega
   obtain ⟨t, R', rfl⟩ : ∃ t R', R = t :: R' := by
     cases R with
     | nil => simp at hPR; omega
     | cons t R' => exact ⟨t, R', rfl⟩
   simp only [List.length_cons] at hPR hRk
   refine s_skip1 ?_
   simp +decide only [pqn]
   refine s_block ?_
   refine s_reg ?_
   simp only [o_pure, o_nil, POp.ev, Opd.ev, gv, setD, List.set, xsj, xel]
   refine s_block1 ?_
   refine s_loop1 (fun k2 e' H2 => ∃ (P1 P2 : List Tm), P = P1 ++ P2 ∧ P1.length = k2 ∧ insB P t = insB P1 t ++ P2 ∧ VecT H2 blk s (A ++ (P1 ++ t :: P2) ++ R' ++ B) ∧ Chg blk H H2 ∧
     e' = [s, .int .i64 A.length, .int .i64 ((A.length + M.length : Nat) : Int), cmpF, .int .i64 ((A.length + P.length : Nat) : Int), .int .i64 ((A.length + P1.length : Nat) : Int)]) P.length ⟨P, [], by simp, rfl, by simp, by simpa using hv, hc, rfl⟩ ?_
   rintro k2 e' H2 ⟨P1, P2, hPP, hk2, hins, hv2, hc2, rfl⟩
   have hnc2 := hc2.next
   have leave : ∀ (X : List Tm) (H3 : AHeap), X = insB P t → VecT H3 blk s (A ++ X ++ R' ++ B) → Chg blk H H3 →
       Round (fun k e' H' => ∃ (P R : List Tm) (x5 : Value), 1 ≤ P.length ∧ P.length + R.length = M.length ∧ R.length = k ∧ isortF P R = isortF [] M ∧ VecT H' blk s (A ++ P ++ R ++ B) ∧ Chg blk H H' ∧
         e' = [s, .int .i64 A.length, .int .i64 ((A.length + M.length : Nat) : Int), cmpF, .int .i64 ((A.length + P.length : Nat) : Int), x5]) k [s, .int .i64 A.length, .int .i64 ((A.length + M.length : Nat) : Int), cmpF, .int .i64 ((A.length + P.length + 1 : Nat) : Int), .int .i64 ((A.length + P1.length : Nat) : Int)] H3 := by
     rintro X H3 rfl hv3 hc3
     have hil := insB_length P t
     exact Round.mk (k - 1) (by omega) ⟨insB P t, R', _, by omega, by omega, by omega, hiso, hv3, hc3, by rw [hil]; rfl⟩
   refine s_test ?_
   rcases List.eq_nil_or_concat P1 with rfl | ⟨P0, x, hP1e⟩
   · -- the term has come to the front
     have hd : decide (((A.length + ([] : List Tm).length : Nat) : Int) > (A.length : Int)) = false := decide_eq_false (by simp)
     simp only [o_pure, o_guard, gk_ft, o_nil, POp.ev, Opd.ev, gv, setD, xsj, xel, pickV, binV, ne_eq, xnt, if_false, hd]
     refine Test.false_ (s_exit1 ?_)
     simp +decide only [pqn, pqe, pbn, pbe, p_fin_normal, reduceIte, resV, resL, xsj, xel, xms]
     refine s_reg1 ?_
     simp only [o_pure, o_nil, POp.ev, Opd.ev, gv, setD, List.set, xsj, xel, binV, ne_eq, xnt, if_false, add1 (i := A.length + P.length) (by omega)]
     simp +decide only [pqn]
     exact leave _ _ (by rw [hins, insB_nil]; rfl) hv2 hc2
   · rw [List.concat_eq_append] at hP1e
     subst hP1e
     have hsh : A ++ (P0 ++ [x] ++ t :: P2) ++ R' ++ B = (A ++ P0) ++ x :: t :: (P2 ++ R' ++ B) := by simp
     rw [hsh] at hv2
     have hPl : (P0 ++ [x]).length = P0.length + 1 := by simp
     have hd : decide (((A.length + (P0 ++ [x]).length : Nat) : Int) > (A.length : Int)) = true := decide_eq_true (by rw [hPl]; omega)
     have hPlen : P.length = P0.length + 1 + P2.length := by rw [hPP]; simp; omega
     have hw : IntKind.i64.wrap (((A.length + (P0 ++ [x]).length : Nat) : Int) - 1) = ((A.length + P0.length : Nat) : Int) := by rw [hPl, IntKind.wrap_i64]; omega
     have hidx : A.length + (P0 ++ [x]).length = (A ++ P0).length + 1 := by rw [hPl]; simp; omega
     have hidx0 : A.length + P0.length = (A ++ P0).length := by simp
     obtain ⟨j1, a1⟩ := VecT.at hv2 (i := (A ++ P0).length + 1) (by simp; omega)
     obtain ⟨j2, a2⟩ := VecT.at hv2 (i := (A ++ P0).length) (by simp)
     have e1 : ((A ++ P0) ++ x :: t :: (P2 ++ R' ++ B))[(A ++ P0).length + 1]'(by simp; omega) = t := by
       rw [List.getElem_append_right (by omega)]
       simp
     have e2 : ((A ++ P0) ++ x :: t :: (P2 ++ R' ++ B))[(A ++ P0).length]'(by simp) = x := by
       rw [List.getElem_append_right (by omega)]
       simp
     rw [e1] at a1
     rw [e2] at a2
     rw [hidx] at hd hw ⊢
     rw [hidx0] at hw
     simp only [o_callT, callV_fn, o_pure, o_guard, gk_tt, POp.ev, Opd.ev, gv, setD, List.map, xsj, xel, binV, ne_eq, xnt, if_false, hd, hw, j1, a1.all, j2, a2.all]
     refine (compareTerms_ok _ _ _ _).mono ?_
     rintro _ H3 ⟨rfl, hx3⟩
     have hv3 := VecT.ext hv2 hx3
     have hc3 := hc2.trans (Chg.of_ext hx3)
     simp only [o_cont, o_pure, o_guard, gk_tt, o_nil, POp.ev, Opd.ev, gv, setD, xsj, xel, pickV, binV, ne_eq, xnt, if_false, cmpT_eq]
     refine Test.split (fun hg => ?_) (fun hg => ?_)
     · have hlt3 : ordT t x < 0 := by simpa using hg
       obtain ⟨j1, a1⟩ := VecT.at hv3 (i := (A ++ P0).length + 1) (by simp; omega)
       obtain ⟨j2, a2⟩ := VecT.at hv3 (i := (A ++ P0).length) (by simp)
       rw [e1] at a1
       rw [e2] at a2
       obtain ⟨H4, H5, t1, t2, hv5, hc5, hn5⟩ := VecT.swap (lim := lim) hv3 hl
       refine s_skip1 ?_
       simp +decide only [pqn]
       refine s_block ?_
       refine s_reg1 ?_
       simp only [o_pure, o_eff, o_nil, POp.ev, Opd.ev, EOp.ev, gv, setD, xsj, xel, binV, ne_eq, xnt, if_false, hw, j1, a1.all, j2, a2.all, t1, t2]
       simp +decide only [pqn, pbn]
       refine s_reg1 ?_
       simp only [o_pure, o_nil, POp.ev, Opd.ev, gv, setD, List.set, xsj, xel, binV, ne_eq, xnt, if_false, hw]
       simp +decide only [pqn]
       refine Round.mk (k2 - 1) (by omega) ⟨P0, x :: P2, by rw [hPP]; simp, by omega, ?_, ?_, hc3.trans hc5, by rw [← hidx0]⟩
       · rw [hins, insB_lt hlt3]
         simp
       · have : A ++ (P0 ++ t :: (x :: P2)) ++ R' ++ B = (A ++ P0) ++ t :: x :: (P2 ++ R' ++ B) := by simp
         rw [this]
         exact hv5
     · have hge3 : ¬ ordT t x < 0 := by simpa using hg
       refine s_exit1 ?_
       simp +decide only [pqn, pqe, pbn, pbe, p_fin_normal, reduceIte, resV, resL, xsj, xel, xms]
       refine s_reg1 ?_
       simp only [o_pure, o_nil, POp.ev, Opd.ev, gv, setD, List.set, xsj, xel, binV, ne_eq, xnt, if_false, add1 (i := A.length + P.length) (by omega)]
       simp +decide only [pqn]
       rw [← hidx]
       refine leave _ _ ?_ (by rw [← hsh] at hv3; exact hv3) hc3
       rw [hins, insB_ge hge3]
       simp
 · have hge : P.length = M.length := by simp at hlt; omega
   have hR0 : R = [] := List.length_eq_zero_iff.1 (by omega)
   subst hR0
   refine s_exit1 ?_
   simp +decide only [pqe, pbe, p_fin_normal, reduceIte, resV, resL, xsj, xel, xms]
   rw [isortF] at hiso
   rw [← hiso]
   exact ⟨by simpa using hv, hc⟩
abbrev leT (a b : Tm) : Prop := ¬ ordT b a < 0
theorem leT_trans {a b c : Tm} (h1 : leT a b) (h2 : leT b c) : leT a c := by
 have e1 := ordT_lt b a
 have e2 := ordT_lt c b
 have e3 := ordT_lt c a
 unfold leT at *
 omega
theorem lt_le_trans {a b c : Tm} (h1 : ordT a b < 0) (h2 : leT b c) : ordT a c < 0 := by
 have e1 := ordT_lt a b
 have e2 := ordT_lt c b
 have e3 := ordT_lt a c
 unfold leT at *
 omega
theorem le_lt_trans {a b c : Tm} (h1 : leT a b) (h2 : ordT b c < 0) : ordT a c < 0 := by
 have e1 := ordT_lt b a
 have e2 := ordT_lt b c
 have e3 := ordT_lt a c
 unfold leT at *
 omega
theorem lt_le {a b : Tm} (h : ordT a b < 0) : leT a b := by
 have := ordT_neg a b
 unfold leT
 omega
def WS (l : List Tm) : Prop := l.Pairwise leT
def mIn (x : Tm) (f : List Tm → List Tm) : List Tm → List Tm
 | [] => x :: f []
 | y :: R => if ordT y x < 0 then y :: mIn x f R else x :: f (y :: R)
def mergeF : List Tm → List Tm → List Tm
 | [], R => R
 | x :: L, R => mIn x (mergeF L) R
theorem mergeF_nil : ∀ L : List Tm, mergeF L [] = L
 | [] => rfl
 | x :: L => by rw [mergeF, mIn, mergeF_nil L]
theorem mergeF_nil_l (R : List Tm) : mergeF [] R = R := rfl
theorem mergeF_cons (x y : Tm) (L R : List Tm) : mergeF (x :: L) (y :: R) = if ordT y x < 0 then y :: mergeF (x :: L) R else x :: mergeF L (y :: R) := by
 simp only [mergeF, mIn]
theorem mem_mergeF {t : Tm} : ∀ {L R : List Tm}, t ∈ mergeF L R ↔ t ∈ L ∨ t ∈ R
 | [], R => by simp [mergeF]
 | x :: L, [] => by rw [mergeF_nil]; simp
 | x :: L, y :: R => by
   rw [mergeF_cons]
   split
   · rw [List.mem_cons, mem_mergeF (L := x :: L) (R := R), List.mem_cons, List.mem_cons]
     constructor
     · rintro (h | h | h)
       · exact .inr (.inl h)
       · exact .inl h
       · exact .inr (.inr h)
     · rintro (h | h | h)
       · exact .inr (.inl h)
       · exact .inl h
       · exact .inr (.inr h)
   · rw [List.mem_cons, mem_mergeF (L := L) (R := y :: R), List.mem_cons, List.mem_cons]
     constructor
     · rintro (h | h | h)
       · exact .inl (.inl h)
       · exact .inl (.inr h)
       · exact .inr h
     · rintro ((h | h) | h)
       · exact .inl h
       · exact .inr (.inl h)
       · exact .inr (.inr h)
theorem mergeF_length : ∀ (L R : List Tm), (mergeF L R).length = L.length + R.length
 | [], R => by simp [mergeF]
 | x :: L, [] => by rw [mergeF_nil]; rfl
 | x :: L, y :: R => by
   rw [mergeF_cons]
   split
   · rw [List.length_cons, mergeF_length (x :: L) R]; simp; omega
   · rw [List.length_cons, mergeF_length L (y :: R)]; simp; omega
theorem mergeF_split : ∀ (L1 R1 L2 R2 : List Tm), (∀ l ∈ L1, ∀ r ∈ R2, leT l r) → (∀ r ∈ R1, ∀ l ∈ L2, ordT r l < 0) → mergeF (L1 ++ L2) (R1 ++ R2) = mergeF L1 R1 ++ mergeF L2 R2
 | [], [], L2, R2, _, _ => rfl
 | [], y :: R1, [], R2, _, _ => rfl
 | [], y :: R1, l :: L2, R2, h1, h2 => by
   have h : ordT y l < 0 := h2 y (by simp) l (by simp)
   have ih := mergeF_split [] R1 (l :: L2) R2 (by simp) (fun r hr k hk => h2 r (by simp [hr]) k hk)
   simp only [List.nil_append, List.cons_append] at ih ⊢
   rw [mergeF_cons, if_pos h, ih]
   rfl
 | x :: L1, [], L2, [], h1, _ => by simp [mergeF_nil]
 | x :: L1, [], L2, r :: R2, h1, h2 => by
   have h : ¬ ordT r x < 0 := h1 x (by simp) r (by simp)
   have ih := mergeF_split L1 [] L2 (r :: R2) (fun l hl k hk => h1 l (by simp [hl]) k hk) (by simp)
   simp only [List.nil_append, List.cons_append] at ih ⊢
   rw [mergeF_cons, if_neg h, ih, mergeF_nil, mergeF_nil]
   rfl
 | x :: L1, y :: R1, L2, R2, h1, h2 => by
   simp only [List.cons_append]
   rw [mergeF_cons, mergeF_cons]
   split
   · have ih := mergeF_split (x :: L1) R1 L2 R2 h1 (fun r hr k hk => h2 r (by simp [hr]) k hk)
     rw [List.cons_append] at ih
     rw [ih]; rfl
   · have ih := mergeF_split L1 (y :: R1) L2 R2 (fun l hl k hk => h1 l (by simp [hl]) k hk) h2
     rw [List.cons_append] at ih
     rw [ih]; rfl
theorem insB_split {P1 P2 : List Tm} {t : Tm} (h1 : ∀ x ∈ P1, leT x t) (h2 : ∀ x ∈ P2, ordT t x < 0) : insB (P1 ++ P2) t = P1 ++ t :: P2 := by
 have key : ∀ (n : Nat) (P2 : List Tm), P2.length = n → (∀ x ∈ P2, ordT t x < 0) → insB (P1 ++ P2) t = P1 ++ t :: P2 := by
   intro n
   induction n with
   | zero =>
     intro P2 hn _
     have : P2 = [] := List.length_eq_zero_iff.1 hn
     subst this
     rcases List.eq_nil_or_concat P1 with rfl | ⟨Q, x, hQ⟩
     · rfl
     · rw [List.concat_eq_append] at hQ
       subst hQ
       rw [List.append_nil, insB_ge (h1 x (by simp))]
       simp
   | succ n ih =>
     intro P2 hn h
     rcases List.eq_nil_or_concat P2 with rfl | ⟨Q, x, hQ⟩
     · simp at hn
     · rw [List.concat_eq_append] at hQ
       subst hQ
       rw [← List.append_assoc, insB_lt (h x (by simp)), ih Q (by simp at hn; omega) (fun y hy => h y (by simp [hy]))]
       simp
 exact key _ P2 rfl h2
theorem ws_split (t : Tm) : ∀ {l : List Tm}, WS l → ∃ l1 l2, l = l1 ++ l2 ∧ (∀ x ∈ l1, leT x t) ∧ (∀ x ∈ l2, ordT t x < 0)
 | [], _ => ⟨[], [], rfl, by simp, by simp⟩
 | x :: l, h => by
   obtain ⟨h1, h2⟩ := List.pairwise_cons.1 h
   by_cases hx : ordT t x < 0
   · refine ⟨[], x :: l, rfl, by simp, fun y hy => ?_⟩
     rcases List.mem_cons.1 hy with rfl | hy
     · exact hx
     · exact lt_le_trans hx (h1 y hy)
   · obtain ⟨l1, l2, rfl, g1, g2⟩ := ws_split t h2
     refine ⟨x :: l1, l2, rfl, fun y hy => ?_, g2⟩
     rcases List.mem_cons.1 hy with rfl | hy
     · exact hx
     · exact g1 y hy
theorem ws_insB {l : List Tm} (t : Tm) (h : WS l) : WS (insB l t) := by
 obtain ⟨l1, l2, rfl, g1, g2⟩ := ws_split t h
 rw [insB_split g1 g2]
 obtain ⟨k1, k2, k3⟩ := List.pairwise_append.1 h
 refine List.pairwise_append.2 ⟨k1, List.pairwise_cons.2 ⟨fun x hx => lt_le (g2 x hx), k2⟩, fun a ha b hb => ?_⟩
 rcases List.mem_cons.1 hb with rfl | hb
 · exact g1 a ha
 · exact k3 a ha b hb
theorem mem_insB {t x : Tm} {l : List Tm} : x ∈ insB l t ↔ x ∈ l ∨ x = t := by
 have : ∀ m : List Tm, x ∈ insRev t m ↔ x ∈ m ∨ x = t := by
   intro m
   induction m with
   | nil => simp [insRev]
   | cons y m ih =>
     unfold insRev
     split
     · rw [List.mem_cons, ih, List.mem_cons]
       constructor
       · rintro (h | h | h)
         · exact .inl (.inl h)
         · exact .inl (.inr h)
         · exact .inr h
       · rintro ((h | h) | h)
         · exact .inl h
         · exact .inr (.inl h)
         · exact .inr (.inr h)
     · rw [List.mem_cons]
       constructor
       · rintro (h | h)
         · exact .inr h
         · exact .inl h
       · rintro (h | h)
         · exact .inr h
         · exact .inl h
 unfold insB
 rw [List.mem_reverse, this, List.mem_reverse]
theorem insB_merge {L R : List Tm} (t : Tm) (hL : WS L) (hR : WS R) : insB (mergeF L R) t = mergeF L (insB R t) := by
 obtain ⟨L1, L2, rfl, a1, a2⟩ := ws_split t hL
 obtain ⟨R1, R2, rfl, b1, b2⟩ := ws_split t hR
 have s1 : ∀ l ∈ L1, ∀ r ∈ R2, leT l r := fun l hl r hr => leT_trans (a1 l hl) (lt_le (b2 r hr))
 have s2 : ∀ r ∈ R1, ∀ l ∈ L2, ordT r l < 0 := fun r hr l hl => le_lt_trans (b1 r hr) (a2 l hl)
 rw [mergeF_split _ _ _ _ s1 s2, insB_split b1 b2]
 have e : R1 ++ t :: R2 = (R1 ++ [t]) ++ R2 := by simp
 rw [e, mergeF_split _ _ _ _ s1 (fun r hr l hl => by
   rcases List.mem_append.1 hr with hr | hr
   · exact s2 r hr l hl
   · rw [List.mem_singleton.1 hr]; exact a2 l hl)]
 have e2 : mergeF L1 (R1 ++ [t]) = mergeF L1 R1 ++ [t] := by
   have := mergeF_split L1 R1 [] [t] (fun l hl r hr => by rw [List.mem_singleton.1 hr]; exact a1 l hl) (by simp)
   rw [List.append_nil] at this
   rw [this]
   rfl
 rw [e2, insB_split]
 · simp
 · intro x hx
   rcases mem_mergeF.1 hx with hx | hx
   · exact a1 x hx
   · exact b1 x hx
 · intro x hx
   rcases mem_mergeF.1 hx with hx | hx
   · exact a2 x hx
   · exact b2 x hx
theorem isortF_append : ∀ (l m P : List Tm), isortF P (l ++ m) = isortF (isortF P l) m
 | [], m, P => rfl
 | t :: l, m, P => by rw [List.cons_append, isortF, isortF, isortF_append l]
theorem isortF_snoc (l P : List Tm) (t : Tm) : isortF P (l ++ [t]) = insB (isortF P l) t := by rw [isortF_append]; rfl
theorem ws_isortF : ∀ {l P : List Tm}, WS P → WS (isortF P l)
 | [], P, h => h
 | t :: l, P, h => by rw [isortF]; exact ws_isortF (ws_insB t h)
theorem ws_isort (l : List Tm) : WS (isortF [] l) := ws_isortF List.Pairwise.nil
theorem mem_isortF {x : Tm} : ∀ {l P : List Tm}, x ∈ isortF P l ↔ x ∈ P ∨ x ∈ l
 | [], P => by simp [isortF]
 | t :: l, P => by
   rw [isortF, mem_isortF, mem_insB, List.mem_cons]
   constructor
   · rintro ((h | h) | h)
     · exact .inl h
     · exact .inr (.inl h)
     · exact .inr (.inr h)
   · rintro (h | h | h)
     · exact .inl (.inl h)
     · exact .inl (.inr h)
     · exact .inr h
theorem isortF_merge {S : List Tm} (hS : WS S) (B : List Tm) : isortF S B = mergeF S (isortF [] B) := by
 have key : ∀ (n : Nat) (B : List Tm), B.length = n → isortF S B = mergeF S (isortF [] B) := by
   intro n
   induction n with
   | zero =>
     intro B hn
     have : B = [] := List.length_eq_zero_iff.1 hn
     subst this
     rw [isortF, isortF, mergeF_nil]
   | succ n ih =>
     intro B hn
     rcases List.eq_nil_or_concat B with rfl | ⟨Q, x, hQ⟩
     · simp at hn
     · rw [List.concat_eq_append] at hQ
       subst hQ
       rw [isortF_snoc, isortF_snoc, ih Q (by simp at hn; omega), insB_merge x hS (ws_isort Q)]
 exact key _ B rfl
theorem merge_isort (A B : List Tm) : mergeF (isortF [] A) (isortF [] B) = isortF [] (A ++ B) := by
 rw [isortF_append, isortF_merge (ws_isort A)]
theorem isort_length (l : List Tm) : (isortF [] l).length = l.length := by rw [isortF_length]; simp
inductive Blk (bs : Nat) : List Tm → List Tm → Prop
 | last {l : List Tm} : l.length < bs → Blk bs l (isortF [] l)
 | step {l1 l2 d2 : List Tm} : l1.length = bs → Blk bs l2 d2 → Blk bs (l1 ++ l2) (isortF [] l1 ++ d2)
theorem Blk.len {bs : Nat} {l d : List Tm} (h : Blk bs l d) : d.length = l.length := by
 induction h with
 | last h => exact isort_length _
 | step h _ ih => rw [List.length_append, List.length_append, isort_length, ih]
theorem Blk.short {bs : Nat} {l d : List Tm} (h : Blk bs l d) (hl : l.length < bs) : d = isortF [] l := by
 cases h with
 | last _ => rfl
 | step h1 h2 => rw [List.length_append] at hl; omega
theorem Blk.cut {bs : Nat} {l d : List Tm} (h : Blk bs l d) (hl : bs ≤ l.length) : ∃ l1 l2 d2, l = l1 ++ l2 ∧ d = isortF [] l1 ++ d2 ∧ l1.length = bs ∧ Blk bs l2 d2 := by
 cases h with
 | last h => omega
 | step h1 h2 => exact ⟨_, _, _, rfl, rfl, h1, h2⟩
theorem Blk.done {bs : Nat} {l d : List Tm} (h : Blk bs l d) (h0 : 0 < bs) (hl : l.length ≤ bs) : d = isortF [] l := by
 by_cases he : l.length < bs
 · exact h.short he
 · obtain ⟨l1, l2, d2, rfl, rfl, h1, h2⟩ := h.cut (by omega)
   have : l2 = [] := by rw [List.length_append] at hl he; exact List.length_eq_zero_iff.1 (by omega)
   subst this
   rw [h2.short (by simpa using h0)]
   simp [isortF]
theorem subN {i j : Nat} (h : j ≤ i) (hi : i < 9000000000000000000) : IntKind.i64.wrap ((i : Int) - (j : Int)) = ((i - j : Nat) : Int) := by rw [IntKind.wrap_i64]; omega
theorem sub1N {i : Nat} (h : 1 ≤ i) (hi : i < 9000000000000000000) : IntKind.i64.wrap ((i : Int) - 1) = ((i - 1 : Nat) : Int) := by rw [IntKind.wrap_i64]; omega
theorem get_mid {A B : List Tm} {x : Tm} {i : Nat} (h : i = A.length) (hlt : i < (A ++ x :: B).length) : (A ++ x :: B)[i]'hlt = x := by
 subst h
 rw [List.getElem_append_right (by omega)]
 simp
theorem VecT.swap2 {lim : Nat} {H : AHeap} {blk : Nat} {v : Value} {A B C : List Tm} {x y : Tm} (h : VecT H blk v (A ++ x :: (B ++ y :: C))) (hl : lim ≤ blk) :
   (iadV 4 v (.int .i64 (A.length : Nat)) = some (.pointer (some ⟨blk, A.length * 4, none⟩)) ∧ At H blk (A.length * 4) x) ∧
   (iadV 4 v (.int .i64 (A.length + 1 + B.length : Nat)) = some (.pointer (some ⟨blk, (A.length + 1 + B.length) * 4, none⟩)) ∧ At H blk ((A.length + 1 + B.length) * 4) y) ∧
   ∃ H1 H2, storeH lim H 4 (.pointer (some ⟨blk, A.length * 4, none⟩)) (tv y) = some (undef, H1) ∧ storeH lim H1 4 (.pointer (some ⟨blk, (A.length + 1 + B.length) * 4, none⟩)) (tv x) = some (undef, H2) ∧
     VecT H2 blk v (A ++ y :: (B ++ x :: C)) ∧ Chg blk H H2 ∧ H2.next = H.next := by
 have e : A ++ x :: (B ++ y :: C) = (A ++ x :: B) ++ y :: C := by simp
 have hlen : (A ++ x :: B).length = A.length + 1 + B.length := by simp; omega
 obtain ⟨j1, a1⟩ := VecT.at h (i := A.length) (by simp)
 rw [get_mid rfl] at a1
 obtain ⟨j2, a2⟩ := VecT.at (show VecT H blk v ((A ++ x :: B) ++ y :: C) by rw [← e]; exact h) (i := A.length + 1 + B.length) (by simp; omega)
 rw [get_mid hlen.symm] at a2
 obtain ⟨cs1, h1, g1⟩ := VecT.putT (lim := lim) h hl (i := A.length) (by simp) y
 have e1 : (A ++ x :: (B ++ y :: C)).set A.length y = (A ++ y :: B) ++ y :: C := by
   rw [List.set_append_right _ _ (by omega), Nat.sub_self]
   simp
 rw [e1] at g1
 obtain ⟨cs2, h2, g2⟩ := VecT.putT (lim := lim) g1 hl (i := A.length + 1 + B.length) (by simp; omega) x
 have hlen2 : (A ++ y :: B).length = A.length + 1 + B.length := by simp; omega
 have e2 : ((A ++ y :: B) ++ y :: C).set (A.length + 1 + B.length) x = A ++ y :: (B ++ x :: C) := by
   rw [List.set_append_right _ _ (by omega), ← hlen2, Nat.sub_self]
   simp
 rw [e2] at g2
 exact ⟨⟨j1, a1⟩, ⟨j2, a2⟩, _, _, h1, h2, g2, (Chg.put blk H cs1).trans (Chg.put blk _ cs2), rfl⟩
theorem swapRange_ok (lim : Nat) (s : Value) (blk : Nat) (A X M Y B : List Tm) (H : AHeap) (hs : VecT H blk s (A ++ X ++ M ++ Y ++ B)) (hl : lim ≤ blk) (hXY : Y.length = X.length) (hn : A.length + X.length + M.length + Y.length ≤ 100000) {a b n : Int}
   (ha : a = (A.length : Int)) (hb : b = ((A.length + X.length + M.length : Nat) : Int)) (hnn : n = (X.length : Int)) :
   ACalls Tryz.prog lim n_slices_swapRangeCmpFunc_impl_Term [s, .int .i64 a, .int .i64 b, .int .i64 n, cmpF] H fun v H' => VecT H' blk s (A ++ Y ++ M ++ X ++ B) ∧ Chg blk H H' := by
 subst ha hb hnn
 refine is_slices_swapRangeCmpFunc_impl_Term.go rfl ?_
 unfold c_slices_swapRangeCmpFunc_impl_Term
 refine s_reg ?_
 simp only [o_pure, o_nil, POp.ev, Opd.ev, env0, gu, setD, List.set, xsj, xel]
 refine s_block1 ?_
 refine s_loop1 (fun k e' H' => ∃ (X1 X2 Y1 Y2 : List Tm), X = X1 ++ X2 ∧ Y = Y1 ++ Y2 ∧ Y1.length = X1.length ∧ X2.length = k ∧ VecT H' blk s (A ++ Y1 ++ X2 ++ M ++ X1 ++ Y2 ++ B) ∧ Chg blk H H' ∧
   e' = [s, .int .i64 A.length, .int .i64 ((A.length + X.length + M.length : Nat) : Int), .int .i64 X.length, .int .i64 X1.length]) X.length ⟨[], X, [], Y, rfl, rfl, rfl, rfl, by simpa using hs, Chg.refl _ _, rfl⟩ ?_
 rintro k e' H' ⟨X1, X2, Y1, Y2, rfl, rfl, hl1, hk, hv, hc, rfl⟩
 have hl2 : Y2.length = X2.length := by simp at hXY; omega
 simp only [List.length_append] at hn
 refine s_test ?_
 simp only [o_pure, o_nil, POp.ev, Opd.ev, gv, setD, xsj, xel, binV, ne_eq, xnt, if_false]
 refine Test.split (fun hlt => ?_) (fun hlt => ?_)
 · have hlt' : X1.length < (X1 ++ X2).length := by simp at hlt ⊢; omega
   obtain ⟨x, X3, rfl⟩ : ∃ x X3, X2 = x :: X3 := by
     cases X2 with
     | nil => simp at hlt'
     | cons x X3 => exact ⟨x, X3, rfl⟩
   obtain ⟨y, Y3, rfl⟩ : ∃ y Y3, Y2 = y :: Y3 := by
     cases Y2 with
     | nil => simp at hl2
     | cons y Y3 => exact ⟨y, Y3, rfl⟩
   simp only [List.length_cons] at hk hl2 hn
   have e1 : A ++ Y1 ++ x :: X3 ++ M ++ X1 ++ y :: Y3 ++ B = (A ++ Y1) ++ x :: ((X3 ++ M ++ X1) ++ y :: (Y3 ++ B)) := by simp
   rw [e1] at hv
   obtain ⟨⟨j1, a1⟩, ⟨j2, a2⟩, H1, H2, t1, t2, hv2, hc2, hn2⟩ := VecT.swap2 (lim := lim) hv hl
   have i1 : (A ++ Y1).length = A.length + X1.length := by simp; omega
   have i2 : A.length + X1.length + 1 + (X3 ++ M ++ X1).length = A.length + (X1 ++ x :: X3).length + M.length + X1.length := by simp; omega
   rw [i1] at j1 a1 t1 j2 a2 t2
   rw [i2] at j2 a2 t2
   have w1 := addN (i := A.length) (j := X1.length) (by omega)
   have w2 := addN (i := A.length + (X1 ++ x :: X3).length + M.length) (j := X1.length) (by simp; omega)
   refine s_skip1 ?_
   simp +decide only [pqn]
   refine s_block ?_
   refine s_reg1 ?_
   simp only [o_pure, o_eff, o_nil, POp.ev, Opd.ev, EOp.ev, gv, setD, xsj, xel, binV, ne_eq, xnt, if_false, w1, w2, j1, a1.all, j2, a2.all, t1, t2]
   simp +decide only [pqn, pbn]
   refine s_reg1 ?_
   simp only [o_pure, o_nil, POp.ev, Opd.ev, gv, setD, List.set, xsj, xel, binV, ne_eq, xnt, if_false, add1 (i := X1.length) (by omega)]
   simp +decide only [pqn]
   refine Round.mk (k - 1) (by omega) ⟨X1 ++ [x], X3, Y1 ++ [y], Y3, by simp, by simp, by simp; omega, by omega, ?_, hc.trans hc2, by simp⟩
   have e2 : A ++ (Y1 ++ [y]) ++ X3 ++ M ++ (X1 ++ [x]) ++ Y3 ++ B = (A ++ Y1) ++ y :: ((X3 ++ M ++ X1) ++ x :: (Y3 ++ B)) := by simp
   rw [e2]
   exact hv2
 · have hge : X2.length = 0 := by simp at hlt; omega
   have h2 : X2 = [] := List.length_eq_zero_iff.1 hge
   subst h2
   have h3 : Y2 = [] := List.length_eq_zero_iff.1 (by simpa using hl2)
   subst h3
   refine s_exit1 ?_
   simp +decide only [pqe, pbe, p_fin_normal, reduceIte, resV, resL, xsj, xel, xms]
   exact ⟨by simpa using hv, hc⟩
theorem rotate_ok (lim : Nat) (s : Value) (blk : Nat) (A U V B : List Tm) (H : AHeap) (hs : VecT H blk s (A ++ U ++ V ++ B)) (hl : lim ≤ blk) (hn : A.length + U.length + V.length ≤ 100000) (hU : U ≠ []) (hV : V ≠ []) {a m b : Int}
   (ha : a = (A.length : Int)) (hm : m = ((A.length + U.length : Nat) : Int)) (hb : b = ((A.length + U.length + V.length : Nat) : Int)) :
   ACalls Tryz.prog lim n_slices_rotateCmpFunc_impl_Term [s, .int .i64 a, .int .i64 m, .int .i64 b, cmpF] H fun v H' => VecT H' blk s (A ++ V ++ U ++ B) ∧ Chg blk H H' := by
 subst ha hm hb
 refine is_slices_rotateCmpFunc_impl_Term.go rfl ?_
 unfold c_slices_rotateCmpFunc_impl_Term
 have w0 : IntKind.i64.wrap (((A.length + U.length : Nat) : Int) - (A.length : Int)) = (U.length : Int) := by rw [subN (by omega) (by omega)]; omega
 have w1 : IntKind.i64.wrap (((A.length + U.length + V.length : Nat) : Int) - ((A.length + U.length : Nat) : Int)) = (V.length : Int) := by rw [subN (by omega) (by omega)]; omega
 refine s_reg ?_
 simp only [o_pure, o_nil, POp.ev, Opd.ev, env0, gu, gv, setD, List.set, xsj, xel, binV, ne_eq, xnt, if_false, w0]
 refine s_reg ?_
 simp only [o_pure, o_nil, POp.ev, Opd.ev, gv, setD, List.set, xsj, xel, binV, ne_eq, xnt, if_false, w1]
 refine s_block ?_
 refine s_loop1 (fun k e' H' => ∃ (A' U' V' B' : List Tm), A' ++ V' ++ U' ++ B' = A ++ V ++ U ++ B ∧ A'.length + U'.length = A.length + U.length ∧ A'.length + U'.length + V'.length ≤ 100000 ∧ U' ≠ [] ∧ V' ≠ [] ∧ U'.length + V'.length = k ∧ VecT H' blk s (A' ++ U' ++ V' ++ B') ∧ Chg blk H H' ∧
   e' = [s, .int .i64 A.length, .int .i64 ((A.length + U.length : Nat) : Int), .int .i64 ((A.length + U.length + V.length : Nat) : Int), cmpF, .int .i64 U'.length, .int .i64 V'.length]) (U.length + V.length) ⟨A, U, V, B, rfl, rfl, by omega, hU, hV, rfl, hs, Chg.refl _ _, rfl⟩ ?_
 rintro k e' H' ⟨A', U', V', B', heq, hpos, hn', hU', hV', hk, hv, hc, rfl⟩
 have hu0 : 0 < U'.length := List.length_pos_iff.2 hU'
 have hv0 : 0 < V'.length := List.length_pos_iff.2 hV'
 have wA : IntKind.i64.wrap (((A.length + U.length : Nat) : Int) - (U'.length : Int)) = (A'.length : Int) := by rw [subN (by omega) (by omega)]; omega
 refine s_test ?_
 simp only [o_pure, o_nil, POp.ev, Opd.ev, gv, setD, xsj, xel, binV, ne_eq, xnt, if_false]
 refine Test.split (fun hne => ?_) (fun hne => ?_)
 · have hne' : U'.length ≠ V'.length := by simp at hne; omega
   refine s_skip1 ?_
   simp +decide only [pqn]
   refine s_block1 ?_
   refine s_test1 ?_
   simp only [o_pure, o_nil, POp.ev, Opd.ev, gv, setD, xsj, xel, binV, ne_eq, xnt, if_false]
   refine Test.split (fun hgt => ?_) (fun hgt => ?_)
   · have hgt' : V'.length < U'.length := by simp at hgt; omega
     obtain ⟨U1, U2, rfl, hU1⟩ : ∃ U1 U2, U' = U1 ++ U2 ∧ U1.length = V'.length := ⟨U'.take V'.length, U'.drop V'.length, (List.take_append_drop _ _).symm, by simp; omega⟩
     refine s_reg ?_
     simp only [o_pure, o_callF, POp.ev, Opd.ev, gv, setD, List.map, xsj, xel, binV, ne_eq, xnt, if_false, wA]
     simp only [List.length_append] at hn' hpos hk hgt'
     have hcall := swapRange_ok lim s blk A' U1 U2 V' B' H' (by simpa using hv) hl (by omega) (by omega) (a := A'.length) (b := ((A.length + U.length : Nat) : Int)) (n := (V'.length : Int)) rfl (by omega) (by omega)
     refine hcall.mono ?_
     rintro _ H2 ⟨hv2, hc2⟩
     simp only [o_cont, o_nil, setD]
     refine s_reg1 ?_
     have w2 : IntKind.i64.wrap (((U1 ++ U2).length : Int) - (V'.length : Int)) = (U2.length : Int) := by rw [subN (by simp; omega) (by simp; omega)]; simp; omega
     simp only [o_pure, o_nil, POp.ev, Opd.ev, gv, setD, List.set, xsj, xel, binV, ne_eq, xnt, if_false, w2]
     simp +decide only [pqn, pbn]
     refine Round.mk (U2.length + U1.length) (by omega) ⟨A' ++ V', U2, U1, B', ?_, by simp; omega, by simp; omega, ?_, ?_, rfl, by simpa using hv2, hc.trans hc2, by rw [hU1]⟩
     · rw [← heq]; simp
     · intro h; rw [h] at hgt'; simp at hgt'; omega
     · intro h; rw [h] at hU1; simp at hU1; omega
   · have hgt' : U'.length < V'.length := by simp at hgt; omega
     obtain ⟨V1, V2, rfl, hV1⟩ : ∃ V1 V2, V' = V1 ++ V2 ∧ V2.length = U'.length := ⟨V'.take (V'.length - U'.length), V'.drop (V'.length - U'.length), (List.take_append_drop _ _).symm, by simp; omega⟩
     simp only [List.length_append] at hn' hpos hk hgt'
     have w2 : IntKind.i64.wrap (((A.length + U.length : Nat) : Int) + ((V1 ++ V2).length : Int)) = ((A.length + U.length + (V1 ++ V2).length : Nat) : Int) := addN (by simp; omega)
     have w3 : IntKind.i64.wrap (((A.length + U.length + (V1 ++ V2).length : Nat) : Int) - (U'.length : Int)) = ((A'.length + U'.length + V1.length : Nat) : Int) := by rw [subN (by omega) (by simp; omega)]; simp; omega
     refine s_reg ?_
     simp only [o_pure, o_callF, POp.ev, Opd.ev, gv, setD, List.map, xsj, xel, binV, ne_eq, xnt, if_false, wA, w2, w3]
     have hcall := swapRange_ok lim s blk A' U' V1 V2 B' H' (by simpa using hv) hl (by omega) (by omega) (a := A'.length) (b := ((A'.length + U'.length + V1.length : Nat) : Int)) (n := (U'.length : Int)) rfl rfl rfl
     refine hcall.mono ?_
     rintro _ H2 ⟨hv2, hc2⟩
     simp only [o_cont, o_nil, setD]
     refine s_reg1 ?_
     have w4 : IntKind.i64.wrap (((V1 ++ V2).length : Int) - (U'.length : Int)) = (V1.length : Int) := by rw [subN (by simp; omega) (by simp; omega)]; simp; omega
     simp only [o_pure, o_nil, POp.ev, Opd.ev, gv, setD, List.set, xsj, xel, binV, ne_eq, xnt, if_false, w4]
     simp +decide only [pqn, pbn]
     refine Round.mk (V2.length + V1.length) (by omega) ⟨A', V2, V1, U' ++ B', ?_, by omega, by omega, ?_, ?_, rfl, by simpa using hv2, hc.trans hc2, by rw [hV1]⟩
     · rw [← heq]; simp
     · intro h; rw [h] at hV1; simp at hV1; omega
     · intro h; rw [h] at hgt'; simp at hgt'; omega
 · have heq' : U'.length = V'.length := by simp at hne; omega
   refine s_exit1 ?_
   simp +decide only [pqn, pqe, pbe, reduceIte]
   refine s_reg1 ?_
   simp only [o_pure, o_callF, POp.ev, Opd.ev, gv, setD, List.map, xsj, xel, binV, ne_eq, xnt, if_false, wA]
   have hcall := swapRange_ok lim s blk A' U' [] V' B' H' (by simpa using hv) hl (by omega) (by simp; omega) (a := A'.length) (b := ((A.length + U.length : Nat) : Int)) (n := (U'.length : Int)) rfl (by simp; omega) rfl
   refine hcall.mono ?_
   rintro _ H2 ⟨hv2, hc2⟩
   simp only [o_cont, o_nil, setD]
   simp +decide only [p_fin_normal, resV, resL, xsj, xel, xms]
   rw [← heq]
   exact ⟨by simpa using hv2, hc.trans hc2⟩
end Go.Proofs.YtmdeppkfboaepaaGreat
