/- Parts of the proof of a statement of this seat: contracts of functions that the law calls, or the law's own row; no condition. -/
import Derived.Test.YtmdeppkfboaepaaGreatM1
set_option maxHeartbeats 8000000
set_option linter.unusedSimpArgs false
set_option linter.unusedVariables false
namespace Go.Proofs.YtmdeppkfboaepaaGreat
open Go.Ab Ints
abbrev wr (a : Int) : Int := IntKind.i64.wrap a
theorem E3 {a : Int} (h0 : -9223372036854775808 ≤ a) (h1 : a ≤ 9223372036854775807) : wr a = a := by
 show IntKind.i64.wrap a = a; rw [IntKind.wrap_i64]; omega
theorem C9e (a : Int) : ∃ q : Int, wr a = a + 18446744073709551616 * q := by
 refine ⟨-((a + 9223372036854775808) / 18446744073709551616), ?_⟩; show IntKind.i64.wrap a = _; rw [IntKind.wrap_i64]; omega
theorem B5x (a q : Int) : wr (a + 18446744073709551616 * q) = wr a := by
 show IntKind.i64.wrap _ = IntKind.i64.wrap _; rw [IntKind.wrap_i64, IntKind.wrap_i64]; omega
theorem D49 (a : Int) : wr (wr a) = wr a := by
 obtain ⟨q, h⟩ := C9e a
 conv => lhs; rw [h]
 exact B5x a q
theorem B6q (a b : Int) : wr (wr a + b) = wr (a + b) := by
 obtain ⟨q, h⟩ := C9e a; rw [h, show a + 18446744073709551616 * q + b = a + b + 18446744073709551616 * q by omega, B5x]
theorem B7c (a b : Int) : wr (a + wr b) = wr (a + b) := by rw [Int.add_comm, B6q, Int.add_comm]
theorem Y0 (a b : Int) : wr (wr a * b) = wr (a * b) := by
 obtain ⟨q, h⟩ := C9e a; rw [h, Int.add_mul, Int.mul_assoc, B5x]
theorem A54 (a b : Int) : wr (a * wr b) = wr (a * b) := by rw [Int.mul_comm, Y0, Int.mul_comm]
theorem B68 (a b : Int) : wr (wr a * wr b) = wr (a * b) := by rw [Y0, A54]
theorem C1e (a b : Int) : wr (wr a + wr b) = wr (a + b) := by rw [B6q, B7c]
theorem J0 {n : Nat} (h : n ≤ 9000000000000000000) : IntKind.i64.wrap (n : Int) = (n : Int) := E3 (by omega) (by omega)
theorem M4 (n : Int) : (0 < n ∧ J5 n = 1) ∨ (n < 0 ∧ J5 n = -1) ∨ (n = 0 ∧ J5 n = 0) := by
 unfold J5; rcases Int.lt_trichotomy n 0 with h | h | h
 ·right; left; exact ⟨h, by rw [if_neg (by omega), if_pos h]⟩
 ·right; right; exact ⟨h, by rw [if_neg (by omega), if_neg (by omega)]⟩
 ·left; exact ⟨h, by rw [if_pos h]⟩
theorem Z9 {b : Nat} {H : A1} {x y : Value} (h : H.blk b = some [x, y]) : D5 H 2 (.pointer (some ⟨b, 0, none⟩)) = some (.agg #[x, y]) := F9 h
theorem X4 {lim b : Nat} {H : A1} {p q x y : Value} (hl : lim ≤ b) (h : H.blk b = some [p, q]) : C8 lim H 2 (.pointer (some ⟨b, 0, none⟩)) (.agg #[x, y]) = some (undef, H.put b [x, y]) :=
 B2b (xs := [x, y]) hl h rfl
theorem C47 (a b : Value) (k l : Int) : C9 [a, b] [(0, 1, .int .i64 k), (1, 1, .int .i64 l)] = some [vi k, vi l] := by simp [C9, C2]
def dyV (n : Int) (k : Nat) : Value := .agg #[.int .i64 n, .int .i64 (k : Int)]
theorem B5a (k : Nat) : ((2 ^ k : Nat) : Int) = (2 : Int) ^ k := by push_cast; rfl
theorem I7 (k : Nat) : (1 : Int) ≤ 2 ^ k := by rw [← B5a]; have := Nat.one_le_two_pow (n := k); omega
theorem A38 {k m : Nat} (h : k ≤ m) : (2 : Int) ^ k ≤ 2 ^ m := by
 rw [← B5a, ← B5a]; have := Nat.pow_le_pow_right (n := 2) (by decide) h; omega
theorem C7k (lim : Nat) (a b : Int) (H : A1) (hb : 1 ≤ b) (ha : a.natAbs ≤ 1000000000000000) : A5 Tryz.prog lim B86 [.int .i64 a, .int .i64 b] H fun v H' => (∃ q, v = .int .i64 q ∧ q * b ≤ a ∧ a < (q + 1) * b ∧ q.natAbs ≤ 1000000000000001) ∧ H' = H := by
 refine B5r.go rfl ?_; unfold A75; have hb0 : ¬ b = 0 := by omega
 have t1 := Int.mul_tdiv_add_tmod a b; have t2 := Int.tmod_lt_of_pos a (show 0 < b by omega); have t3 := Int.lt_tmod_of_pos a (show 0 < b by omega); have t4 : (a.tdiv b).natAbs ≤ a.natAbs := by
  rw [Int.natAbs_tdiv]; exact Nat.div_le_self _ _
 have w1 : IntKind.i64.wrap (a.tdiv b) = a.tdiv b := E3 (by omega) (by omega); have w2 : IntKind.i64.wrap (a.tdiv b - 1) = a.tdiv b - 1 := E3 (by omega) (by omega); have e1 : b * a.tdiv b = a.tdiv b * b := Int.mul_comm _ _; obtain ⟨q, hq⟩ : ∃ q, a.tdiv b = q := ⟨_, rfl⟩; obtain ⟨r, hr⟩ : ∃ r, a.tmod b = r := ⟨_, rfl⟩; rw [hq] at t1 t4 w1 w2 e1; rw [hr] at t1 t2 t3; have e2 : (q + 1) * b = q * b + b := by rw [Int.add_mul, Int.one_mul]
 have e3 : (q - 1) * b = q * b - b := by rw [Int.sub_mul, Int.one_mul]
 refine A0 ?_; simp only [sS]; refine A0 ?_; simp only [sS, hb0, hq, w1]; refine N9 (fun e' H' => ∃ q', q' * b ≤ a ∧ a < (q' + 1) * b ∧ q'.natAbs ≤ 1000000000000001 ∧ H' = H ∧ e' = [.int .i64 a, .int .i64 b, .int .i64 0, .int .i64 q']) ?_ ?_
 ·refine E1 ?_; simp only [sS, hb0, hr]; refine C4.split (fun h => ?_) (fun h => ?_)
  ·have h' := of_decide_eq_true h; refine A4 ?_; simp only [sS, w2]; simp +decide only [sQ]; refine ⟨q - 1, by omega, ?_, by omega, trivial, rfl⟩; rw [Int.sub_add_cancel]; omega
  ·have h' := of_decide_eq_false h; refine A2 ?_; simp +decide only [sQ]; exact ⟨q, by omega, by omega, by omega, trivial, rfl⟩
 ·rintro e' H' ⟨q', g1, g2, g3, rfl, rfl⟩; refine A0 ?_; simp only [sS]; refine A3 ?_; simp +decide only [sQ]; exact ⟨⟨q', rfl, g1, g2, g3⟩, trivial⟩
theorem B6w (lim : Nat) (n : Int) (k : Nat) (H : A1) (hk : k ≤ 24) (hn : n.natAbs ≤ 1099511627776) : A5 Tryz.prog lim B7l [dyV n k] H fun v H' => (∃ p, v = .int .i64 p ∧ p * 2 ^ k ≤ n ∧ n < (p + 1) * 2 ^ k ∧ p.natAbs ≤ 1000000000000001) ∧ Ext H H' := by
 refine B4t.go rfl ?_; unfold A6c dyV; refine A0 ?_; simp only [sS, M5, C2]; have hx := Ext.alloc H [.int .i64 n, .int .i64 (k : Int)]; have hb : (H.alloc [.int .i64 n, .int .i64 (k : Int)]).blk H.next = some [.int .i64 n, .int .i64 (k : Int)] := A6 _ _; generalize H.alloc [.int .i64 n, .int .i64 (k : Int)] = H1 at hx hb ⊢; refine A0 ?_; simp only [sS, Nat.zero_add, B7 hb]; refine (Ints.O4 _ k H1 (by omega)).use ?_; rintro _ HH ⟨rfl, hh⟩ _; subst HH; simp only [sS]; refine (C7k _ n (2 ^ k) H1 (I7 k) (by omega)).mono ?_; rintro _ HH ⟨⟨p, rfl, g1, g2, g3⟩, hh⟩; subst HH; simp only [sS]; refine A3 ?_; simp +decide only [sQ]; exact ⟨⟨p, rfl, g1, g2, g3⟩, hx⟩
theorem C6v (lim : Nat) (n : Int) (k : Nat) (H : A1) (hl : lim ≤ H.next) (hk : k ≤ 24) (h0 : 0 ≤ n) (hn : n ≤ 2 ^ k) : A5 Tryz.prog lim B3v [dyV n k, .int .i64 24] H fun v H' => v = .tuple #[.int .i64 (n * 2 ^ (24 - k)), .bool true] ∧ Ext H H' := by
 refine B1e.go rfl ?_; unfold A6d dyV; refine A0 ?_; simp only [sS, M5, C2]; have hx := Ext.alloc H [.int .i64 n, .int .i64 (k : Int)]; have hb : (H.alloc [.int .i64 n, .int .i64 (k : Int)]).blk H.next = some [.int .i64 n, .int .i64 (k : Int)] := A6 _ _; have hbl : H.next < (H.alloc [.int .i64 n, .int .i64 (k : Int)]).next := Nat.lt_succ_self _; generalize H.alloc [.int .i64 n, .int .i64 (k : Int)] = H1 at hx hb hbl ⊢; generalize hq : H.next = q at *
 refine A9 ?_; simp only [sS, Nat.zero_add, B7 hb]; refine C4.split (fun h => ?_) (fun h => ?_)
 ·have h' : n = 0 := by simpa using h
  subst h'; refine A0 ?_; simp only [sS]; refine A3 ?_; simp +decide only [sQ]; exact ⟨by simp, hx⟩
 refine A2 ?_; simp +decide only [sQ]; refine C7 (A0 ?_); simp only [sS, Nat.zero_add, B7 hb]; refine A7 ?_; have hp24 := A38 hk; refine B9 (fun j e' H' => ∃ m : Nat, k + m + j = 24 ∧ H'.blk q = some [.int .i64 (n * 2 ^ m), .int .i64 (k : Int)] ∧ q < H'.next ∧ Ext H H' ∧ e' = [.agg #[.int .i64 n, .int .i64 (k : Int)], .int .i64 24, .pointer (some ⟨q, 0, none⟩), .int .i64 0, .bool false, .int .i64 ((k + m : Nat) : Int)]) (24 - k) ⟨0, by omega, by rw [Int.pow_zero, Int.mul_one]; exact hb, hbl, hx, rfl⟩ ?_; rintro j e' H2 ⟨m, hmj, hb2, hbl2, hx2, rfl⟩; refine A9 ?_; simp only [sS]; refine C4.split (fun hlt => ?_) (fun hlt => ?_)
 ·have hlt' : k + m < 24 := by have := of_decide_eq_true hlt; omega
  have b1 : n * 2 ^ m ≤ 16777216 := by
   have h1 : n * 2 ^ m ≤ 2 ^ k * 2 ^ m := Int.mul_le_mul_of_nonneg_right hn (by have := I7 m; omega); rw [← Int.pow_add] at h1; have h2 := A38 (show k + m ≤ 24 by omega); have h3 : (2 : Int) ^ 24 = 16777216 := by decide
   omega
  have b0 : 0 ≤ n * 2 ^ m := Int.mul_nonneg h0 (by have := I7 m; omega); have p60 : (2 : Int) ^ 60 = 1152921504606846976 := by decide
  have w60 : IntKind.i64.wrap (0 - (2 : Int) ^ 60) = -1152921504606846976 := by rw [p60]; decide
  have hin : (decide (-1152921504606846976 ≤ n * 2 ^ m) && decide (n * 2 ^ m ≤ 2 ^ 60)) = true := by
   rw [p60]; simp; omega
  have w2 : IntKind.i64.wrap (n * 2 ^ m * 2) = n * 2 ^ (m + 1) := by
   rw [Int.pow_succ, ← Int.mul_assoc]; exact E3 (by omega) (by omega)
  refine A2 ?_; simp +decide only [sQ]; refine A8 ?_; refine A9 ?_; simp only [sS, Nat.zero_add, B7 hb2]; refine (Ints.O4 _ 60 H2 (by omega)).use ?_; rintro _ HH ⟨rfl, hh⟩ _; subst HH; simp only [sS, w60]; refine (Ints.O4 _ 60 H2 (by omega)).use ?_; rintro _ HH ⟨rfl, hh⟩ _; subst HH; simp only [sS]; refine (Ints.L6 _ _ _ _ _).eq ?_; rw [hin]; simp only [sS]; refine C4.false_ (A2 ?_); simp +decide only [sQ]; have hst : C8 lim H2 1 (.pointer (some ⟨q, 0, none⟩)) (.int .i64 (n * 2 ^ (m + 1))) = some (undef, H2.put q [.int .i64 (n * 2 ^ (m + 1)), .int .i64 (k : Int)]) := S3 rfl (by omega) hb2 (by simp); refine A4 ?_; simp only [sS, Nat.zero_add, B7 hb2, w2, hst]; simp +decide only [sQ]; refine A4 ?_; simp only [sS, D6 (i := k + m) (by omega)]; simp +decide only [sQ]; exact C6.mk (j - 1) (by omega) ⟨m + 1, by omega, D3 _ _ _, hbl2, Chg.ext hx2 (Chg.put _ _ _) (by omega), rfl⟩
 ·have hge : m = 24 - k := by have := of_decide_eq_false hlt; omega
  subst hge; refine B8 ?_; simp +decide only [sQ, reduceIte]; refine A0 ?_; simp only [sS, Nat.zero_add, B7 hb2]; refine A3 ?_; simp +decide only [sQ]; exact ⟨trivial, hx2⟩
theorem C8g {n : Int} (h : 0 < n) : J5 n = 1 := by unfold J5; rw [if_pos h]
theorem C7s {n : Int} (h : n < 0) : J5 n = -1 := by unfold J5; rw [if_neg (by omega), if_pos h]
theorem X2 {c : Int} (hc : 0 < c) (n : Int) : J5 (c * n) = J5 n := by
 rcases Int.lt_trichotomy n 0 with h | h | h
 ·rw [C7s h, C7s (Int.mul_neg_of_pos_of_neg hc h)]
 ·subst h; simp
 ·rw [C8g h, C8g (Int.mul_pos hc h)]
theorem C3c {n1 n2 p q : Int} {k1 k2 : Nat} (h1 : n1 < (p + 1) * 2 ^ k1) (h2 : q * 2 ^ k2 ≤ n2) (h : p < q) : n1 * 2 ^ k2 - n2 * 2 ^ k1 < 0 := by
 have a1 := I7 k1; have a2 := I7 k2; have g1 : n1 * 2 ^ k2 < (p + 1) * 2 ^ k1 * 2 ^ k2 := Int.mul_lt_mul_of_pos_right h1 (by omega); have g2 : q * 2 ^ k2 * 2 ^ k1 ≤ n2 * 2 ^ k1 := Int.mul_le_mul_of_nonneg_right h2 (by omega); have g3 : (p + 1) * (2 ^ k1 * 2 ^ k2) ≤ q * (2 ^ k1 * 2 ^ k2) := Int.mul_le_mul_of_nonneg_right (by omega) (Int.mul_nonneg (by omega) (by omega)); rw [Int.mul_assoc] at g1; rw [Int.mul_assoc, Int.mul_comm (2 ^ k2) (2 ^ k1)] at g2; omega
theorem B5p (lim : Nat) (n1 n2 : Int) (k1 k2 : Nat) (H : A1) (hl : lim ≤ H.next) (hk1 : k1 ≤ 24) (hk2 : k2 ≤ 24) (hn1 : n1.natAbs ≤ 1099511627776) (hn2 : n2.natAbs ≤ 1099511627776) :
 A5 Tryz.prog lim A3z [dyV n1 k1, dyV n2 k2] H fun v H' => v = .int .i64 (J5 (n1 * 2 ^ k2 - n2 * 2 ^ k1)) ∧ Ext H H' := by
 refine B8k.go rfl ?_; unfold B1a dyV; refine A0 ?_; simp only [sS, M5, C2]; have hx0 : Ext H ((H.alloc [.int .i64 n1, .int .i64 (k1 : Int)]).alloc [.int .i64 n2, .int .i64 (k2 : Int)]) := (Ext.alloc _ _).trans (Ext.alloc _ _); have hb1 : ((H.alloc [.int .i64 n1, .int .i64 (k1 : Int)]).alloc [.int .i64 n2, .int .i64 (k2 : Int)]).blk H.next = some [.int .i64 n1, .int .i64 (k1 : Int)] := by
  rw [A0p _ _ (Nat.lt_succ_self _)]; exact A6 _ _
 have hb2 : ((H.alloc [.int .i64 n1, .int .i64 (k1 : Int)]).alloc [.int .i64 n2, .int .i64 (k2 : Int)]).blk (H.alloc [.int .i64 n1, .int .i64 (k1 : Int)]).next = some [.int .i64 n2, .int .i64 (k2 : Int)] := A6 _ _; have hlt : H.next < ((H.alloc [.int .i64 n1, .int .i64 (k1 : Int)]).alloc [.int .i64 n2, .int .i64 (k2 : Int)]).next := by simp only [I5]; omega
 have hlt2 : (H.alloc [.int .i64 n1, .int .i64 (k1 : Int)]).next < ((H.alloc [.int .i64 n1, .int .i64 (k1 : Int)]).alloc [.int .i64 n2, .int .i64 (k2 : Int)]).next := Nat.lt_succ_self _; generalize (H.alloc [.int .i64 n1, .int .i64 (k1 : Int)]).alloc [.int .i64 n2, .int .i64 (k2 : Int)] = H1 at hx0 hb1 hb2 hlt hlt2 ⊢; generalize (H.alloc [.int .i64 n1, .int .i64 (k1 : Int)]).next = r at hb2 hlt2 ⊢; have hnx := hx0.next; refine A0 ?_; simp only [sS, Z9 hb1, Z9 hb2]; refine (B6w _ n1 k1 H1 hk1 hn1).use ?_; rintro _ H2 ⟨⟨p, rfl, p1, p2, p3⟩, hx2⟩ _; simp only [sS]; refine (B6w _ n2 k2 H2 hk2 hn2).mono ?_; rintro _ H3 ⟨⟨q, rfl, q1, q2, q3⟩, hx3⟩; have hx13 := hx2.trans hx3; have hn13 := hx13.next; simp only [sS]; refine A9 ?_; simp only [sS]; have wpq : IntKind.i64.wrap (p - q) = p - q := E3 (by omega) (by omega); refine C4.split (fun h => ?_) (fun h => ?_)
 ·have h' : p ≠ q := by simpa using h
  refine A0 ?_; simp only [sS, wpq]; refine (O9 _ _ _).eq ?_; simp only [sS]; refine A3 ?_; simp +decide only [sQ]; refine ⟨?_, hx0.trans hx13⟩; rcases Int.lt_or_lt_of_ne h' with hlt | hlt
  ·rw [C7s (show p - q < 0 by omega), C7s (C3c p2 q1 hlt)]
  ·have := C3c q2 p1 hlt; rw [C8g (show 0 < p - q by omega), C8g (by omega)]
 have h' : p = q := by simpa using h
 subst h'; have one : ∀ (n : Int) (k : Nat), k ≤ 24 → n.natAbs ≤ 1099511627776 → p * 2 ^ k ≤ n → n < (p + 1) * 2 ^ k → IntKind.i64.wrap (p * 2 ^ k) = p * 2 ^ k ∧ IntKind.i64.wrap (n - p * 2 ^ k) = n - p * 2 ^ k ∧ 0 ≤ n - p * 2 ^ k ∧ n - p * 2 ^ k ≤ 2 ^ k := by
  intro n k hk hn g1 g2; have a1 := A38 hk; have a2 : (2 : Int) ^ 24 = 16777216 := by decide
  have a3 := I7 k; rw [Int.add_mul, Int.one_mul] at g2; exact ⟨E3 (by omega) (by omega), E3 (by omega) (by omega), by omega, by omega⟩
 obtain ⟨r1, r2, r3, r4⟩ := one n1 k1 hk1 hn1 p1 p2; obtain ⟨s1, s2, s3, s4⟩ := one n2 k2 hk2 hn2 q1 q2; have hb1' : H3.blk H.next = some [.int .i64 n1, .int .i64 (k1 : Int)] := by rw [hx13.blk _ hlt]; exact hb1
 have hb2' : H3.blk r = some [.int .i64 n2, .int .i64 (k2 : Int)] := by rw [hx13.blk _ hlt2]; exact hb2
 refine A2 ?_; simp +decide only [sQ]; refine A0 ?_; simp only [sS, Nat.zero_add, B7 hb1']; refine (Ints.O4 _ k1 H3 (by omega)).use ?_; rintro _ HH ⟨rfl, hh⟩ _; subst HH; simp only [sS, r1, r2, C47]; refine (C6v lim (n1 - p * 2 ^ k1) k1 H3 (by omega) hk1 r3 r4).mono ?_; rintro _ H4 ⟨rfl, hx4⟩; have hn4 := hx4.next; have hb2'' : H4.blk r = some [.int .i64 n2, .int .i64 (k2 : Int)] := by rw [hx4.blk _ (by omega)]; exact hb2'
 simp only [sS]; refine A0 ?_; simp only [sS, Nat.zero_add, B7 hb2'']; refine (Ints.O4 _ k2 H4 (by omega)).use ?_; rintro _ HH ⟨rfl, hh⟩ _; subst HH; simp only [sS, s1, s2, C47]; refine (C6v lim (n2 - p * 2 ^ k2) k2 H4 (by omega) hk2 s3 s4).mono ?_; rintro _ H5 ⟨rfl, hx5⟩; simp only [sS]; have big : ∀ (n : Int) (k : Nat), k ≤ 24 → 0 ≤ n → n ≤ 2 ^ k → 0 ≤ n * 2 ^ (24 - k) ∧ n * 2 ^ (24 - k) ≤ 16777216 := by
  intro n k hk g0 g1; have a1 := I7 (24 - k); have a2 : n * 2 ^ (24 - k) ≤ 2 ^ k * 2 ^ (24 - k) := Int.mul_le_mul_of_nonneg_right g1 (by omega); rw [← Int.pow_add, show k + (24 - k) = 24 by omega] at a2; have a3 : (2 : Int) ^ 24 = 16777216 := by decide
  exact ⟨Int.mul_nonneg g0 (by omega), by omega⟩
 obtain ⟨b1, b2⟩ := big _ k1 hk1 r3 r4; obtain ⟨c1, c2⟩ := big _ k2 hk2 s3 s4; have wxy : IntKind.i64.wrap ((n1 - p * 2 ^ k1) * 2 ^ (24 - k1) - (n2 - p * 2 ^ k2) * 2 ^ (24 - k2)) = (n1 - p * 2 ^ k1) * 2 ^ (24 - k1) - (n2 - p * 2 ^ k2) * 2 ^ (24 - k2) := E3 (by omega) (by omega); refine A0 ?_; simp only [sS, wxy]; refine (O9 _ _ _).eq ?_; simp only [sS]; refine A3 ?_; simp +decide only [sQ]; refine ⟨?_, ((hx0.trans hx13).trans hx4).trans hx5⟩; have hc : (0 : Int) < 2 ^ k1 * 2 ^ k2 := Int.mul_pos (by have := I7 k1; omega) (by have := I7 k2; omega); have hd : (0 : Int) < 2 ^ 24 := by decide
 have e1 : (2 : Int) ^ k1 * 2 ^ (24 - k1) = 2 ^ 24 := by rw [← Int.pow_add, show k1 + (24 - k1) = 24 by omega]
 have e2 : (2 : Int) ^ k2 * 2 ^ (24 - k2) = 2 ^ 24 := by rw [← Int.pow_add, show k2 + (24 - k2) = 24 by omega]
 rw [← X2 hc ((n1 - p * 2 ^ k1) * 2 ^ (24 - k1) - (n2 - p * 2 ^ k2) * 2 ^ (24 - k2)), ← X2 hd (n1 * 2 ^ k2 - n2 * 2 ^ k1)]; have key : (2 : Int) ^ k1 * 2 ^ k2 * ((n1 - p * 2 ^ k1) * 2 ^ (24 - k1) - (n2 - p * 2 ^ k2) * 2 ^ (24 - k2)) = 2 ^ 24 * (n1 * 2 ^ k2 - n2 * 2 ^ k1) := by
  have f1 : (2 : Int) ^ k1 * 2 ^ k2 * ((n1 - p * 2 ^ k1) * 2 ^ (24 - k1)) = 2 ^ 24 * ((n1 - p * 2 ^ k1) * 2 ^ k2) := by
   rw [← e1]; simp only [Int.mul_assoc, Int.mul_comm, Int.mul_left_comm]
  have f2 : (2 : Int) ^ k1 * 2 ^ k2 * ((n2 - p * 2 ^ k2) * 2 ^ (24 - k2)) = 2 ^ 24 * ((n2 - p * 2 ^ k2) * 2 ^ k1) := by
   rw [← e2]; simp only [Int.mul_assoc, Int.mul_comm, Int.mul_left_comm]
  rw [Int.mul_sub, f1, f2, ← Int.mul_sub]
  congr 1
  rw [Int.sub_mul, Int.sub_mul, Int.mul_assoc, Int.mul_assoc, Int.mul_comm (2 ^ k1) (2 ^ k2)]; omega
 rw [key]
theorem B3g (lim : Nat) (n : Int) (k : Nat) (H : A1) (hk : k ≤ 24) (hn : n.natAbs ≤ 1099511627776) (ho : k = 0 ∨ n.tmod 2 ≠ 0) :
 A5 Tryz.prog lim B8h [dyV n k] H fun v H' => v = .bool true ∧ Ext H H' := by
 refine B6x.go rfl ?_; unfold A73 dyV; refine A0 ?_; simp only [sS, M5, C2]; have hx := Ext.alloc H [.int .i64 n, .int .i64 (k : Int)]; have hb : (H.alloc [.int .i64 n, .int .i64 (k : Int)]).blk H.next = some [.int .i64 n, .int .i64 (k : Int)] := A6 _ _; generalize H.alloc [.int .i64 n, .int .i64 (k : Int)] = H1 at hx hb ⊢; have i1 : (decide ((0 : Int) ≤ (k : Int)) && decide ((k : Int) ≤ 24)) = true := by simp; omega
 have i2 : (decide (-1099511627776 ≤ n) && decide (n ≤ 1099511627776)) = true := by simp; omega
 have e2 : ¬ ((2 : Int) = 0) := by decide
 refine A0 ?_; simp only [sS, Nat.zero_add, B7 hb]; refine (Ints.L6 _ _ _ _ _).eq ?_; rw [i1]; simp only [sS, Nat.zero_add, B7 hb]; refine (Ints.L6 _ _ _ _ _).eq ?_; rw [i2]; by_cases h0 : k = 0
 ·have d0 : ((k : Int) == 0) = true := by simp; omega
  simp only [sS, Nat.zero_add, B7 hb, d0]; refine A3 ?_; simp +decide only [sQ]; exact ⟨trivial, hx⟩
 ·have d0 : ((k : Int) == 0) = false := by simp; omega
  have d1 : (n.tmod 2 != 0) = true := by simpa using ho.resolve_left h0
  simp only [sS, Nat.zero_add, B7 hb, d0, e2, d1]; refine A3 ?_; simp +decide only [sQ]; exact ⟨trivial, hx⟩
theorem D3l {n : Int} (hn : n.tmod 2 ≠ 0) : n % 2 = 1 := by
 rcases Int.emod_two_eq n with h | h
 ·exact absurd (Int.tmod_eq_zero_of_dvd (Int.dvd_of_emod_eq_zero h)) hn
 ·exact h
def Low (n : Int) (k : Nat) (N : Int) (K : Nat) : Prop := n * 2 ^ K = N * 2 ^ k ∧ K ≤ k ∧ N.natAbs ≤ n.natAbs
theorem C9h {n N : Int} {k K : Nat} (h : Low n k N K) (ho : K = 0 ∨ N.tmod 2 ≠ 0) : E6 n k = (N, K) := by
 obtain ⟨h1, h2, _⟩ := h; have e : N * 2 ^ k = N * 2 ^ (k - K) * 2 ^ K := by rw [Int.mul_assoc, ← Int.pow_add, show k - K + K = k by omega]
 rw [e] at h1; have := I7 K; rw [C8z h2 (Int.eq_of_mul_eq_mul_right (by omega) h1)]; exact C48 (ho.imp id D3l)
theorem C8l (lim : Nat) (n : Int) (k : Nat) (H : A1) (hl : lim ≤ H.next) (hk : k ≤ 24) (hn : n.natAbs ≤ 1099511627776) :
 A5 Tryz.prog lim A7s [.int .i64 n, .int .i64 k] H fun v H' => (∃ N K, v = .tuple #[dyV N K, .bool true] ∧ E6 n k = (N, K)) ∧ Ext H H' := by
 refine A5t.go rfl ?_; unfold A2s; refine A0 ?_; simp only [sS]; have hx := Ext.alloc H [.int .i64 0, .int .i64 0]; have hr : (H.alloc [.int .i64 0, .int .i64 0]).blk H.next = some [.int .i64 0, .int .i64 0] := A6 _ _; have hrl : H.next < (H.alloc [.int .i64 0, .int .i64 0]).next := Nat.lt_succ_self _; generalize H.alloc [.int .i64 0, .int .i64 0] = H1 at hx hr hrl ⊢; generalize hre : H.next = r at *
 have e2 : ¬ ((2 : Int) = 0) := by decide
 refine N9 (fun e' H' => ∃ K : Nat, Low n k n K ∧ (n = 0 → K = 0) ∧ H' = H1 ∧ e' = [.int .i64 n, .int .i64 (K : Int), .pointer (some ⟨r, 0, none⟩), .bool false, undef]) ?_ ?_
 ·refine D0 (decide (n = 0) && decide (0 < (k : Int))) ?_ (fun hg => ?_) (fun hg => ?_)
  ·by_cases h0 : n = 0
   ·have d0 : (n == 0) = true := by simpa using h0
    simp only [sS, d0]; simp [h0]
   ·have d0 : (n == 0) = false := by simpa using h0
    simp only [sS, d0]; simp [h0]
  ·simp only [Bool.and_eq_true, decide_eq_true_eq] at hg; refine A4 ?_; simp only [sS]; simp +decide only [sQ]; refine ⟨0, ⟨by rw [hg.1]; simp, by omega, Nat.le_refl _⟩, fun _ => rfl, trivial, rfl⟩
  ·refine A2 ?_; simp +decide only [sQ]; refine ⟨k, ⟨rfl, Nat.le_refl _, Nat.le_refl _⟩, fun h0 => ?_, trivial, rfl⟩; subst h0; simp at hg; omega
 rintro e' H2 ⟨K0, hK0, hz0, rfl, rfl⟩; refine A7 ?_; refine B9 (fun j e' H' => ∃ (N : Int) (K : Nat), K = j ∧ Low n k N K ∧ H' = H2 ∧ e' = [.int .i64 N, .int .i64 (K : Int), .pointer (some ⟨r, 0, none⟩), .bool false, undef]) K0 ⟨n, K0, rfl, hK0, rfl, rfl⟩ ?_; clear hK0 hz0; rintro j e' H2 ⟨N, K, rfl, hK, rfl, rfl⟩; obtain ⟨h1, h2, h3⟩ := hK; refine D7 (decide (0 < (K : Int)) && (N.tmod 2 == 0)) ?_ (fun hg => ?_) (fun hg => ?_)
 ·by_cases h0 : 0 < (K : Int)
  ·have d0 : decide ((K : Int) > 0) = true := by simpa using h0
   simp only [sS, d0, e2]; simp [h0]
  ·have d0 : decide ((K : Int) > 0) = false := by simpa using h0
   simp only [sS, d0]; simp [h0]
 ·simp only [Bool.and_eq_true, decide_eq_true_eq, beq_iff_eq] at hg; obtain ⟨K', rfl⟩ : ∃ K', K = K' + 1 := ⟨K - 1, by omega⟩; have t1 := Int.mul_tdiv_add_tmod N 2; have t4 : (N.tdiv 2).natAbs ≤ N.natAbs := by
   rw [Int.natAbs_tdiv]; exact Nat.div_le_self _ _
  obtain ⟨M, hM⟩ : ∃ M, N.tdiv 2 = M := ⟨_, rfl⟩; rw [hM] at t1 t4; have w1 : IntKind.i64.wrap M = M := E3 (by omega) (by omega); have w2 : IntKind.i64.wrap (((K' + 1 : Nat) : Int) - 1) = (K' : Int) := by rw [show ((K' + 1 : Nat) : Int) - 1 = (K' : Int) by omega]; exact J0 (by omega)
  refine A2 ?_; simp +decide only [sQ]; refine A8 ?_; refine A0 ?_; simp only [sS, e2, hM, w1]; refine A4 ?_; simp only [sS, w2]; simp +decide only [sQ]; refine C6.mk K' (by omega) ⟨M, K', rfl, ⟨?_, by omega, by omega⟩, rfl, rfl⟩; have e : N = 2 * M := by omega
  have e3 : n * 2 ^ (K' + 1) = 2 * (n * 2 ^ K') := by rw [Int.pow_succ, Int.mul_comm (2 ^ K') 2, Int.mul_left_comm]
  have e4 : 2 * M * 2 ^ k = 2 * (M * 2 ^ k) := Int.mul_assoc _ _ _; rw [e, e3, e4] at h1; omega
 ·refine B8 ?_; simp +decide only [sQ, reduceIte]; have ho : K = 0 ∨ N.tmod 2 ≠ 0 := by
   simp only [Bool.and_eq_false_iff, decide_eq_false_iff_not, beq_eq_false_iff_ne] at hg; rcases hg with hg | hg
   ·left; omega
   ·right; simpa using hg
  have hnx := hx.next; refine A0 ?_; simp only [sS, C47]; have hst : C8 lim (H2.alloc [.int .i64 0, .int .i64 0]) 2 (.pointer (some ⟨H2.next, 0, none⟩)) (.agg #[vi N, vi (K : Int)]) = some (undef, (H2.alloc [.int .i64 0, .int .i64 0]).put H2.next [vi N, vi (K : Int)]) := X4 (by omega) (A6 _ _); simp only [sS, hst]; have hx2 : Ext H2 ((H2.alloc [.int .i64 0, .int .i64 0]).put H2.next [vi N, vi (K : Int)]) := Chg.ext (Ext.alloc _ _) (Chg.put _ _ _) (Nat.le_refl _); have ho4 : ((H2.alloc [.int .i64 0, .int .i64 0]).put H2.next [vi N, vi (K : Int)]).blk H2.next = some [vi N, vi (K : Int)] := D3 _ _ _; have hl4 : H2.next < ((H2.alloc [.int .i64 0, .int .i64 0]).put H2.next [vi N, vi (K : Int)]).next := Nat.lt_succ_self _; generalize (H2.alloc [.int .i64 0, .int .i64 0]).put H2.next [vi N, vi (K : Int)] = H3 at hx2 ho4 hl4 ⊢; refine A9 ?_; simp only [sS, Z9 ho4]; refine (B3g lim N K H3 (by omega) (by omega) ho).mono ?_; rintro _ H4 ⟨rfl, hx4⟩; have ho5 : H4.blk H2.next = some [vi N, vi (K : Int)] := by rw [hx4.blk _ hl4]; exact ho4
  have hr4 : H4.blk r = some [.int .i64 0, .int .i64 0] := by rw [(hx2.trans hx4).blk _ hrl]; exact hr
  simp only [sS]; refine C4.false_ (A2 ?_); simp +decide only [sQ]; refine A0 ?_; simp only [sS, Z9 ho5, X4 (lim := lim) (show lim ≤ r by omega) hr4]; refine A3 ?_; simp +decide only [sQ, Z9 (D3 _ _ _)]; exact ⟨⟨N, K, rfl, C9h ⟨h1, h2, h3⟩ ho⟩, Chg.ext ((hx.trans hx2).trans hx4) (Chg.put _ _ _) (by omega)⟩
theorem A6k (lim : Nat) (n : Int) (k : Nat) (H : A1) (hl : lim ≤ H.next) (hk : k ≤ 24) (hn : n.natAbs ≤ 1099511627776) :
 A5 Tryz.prog lim A44 [.int .i64 n, .int .i64 k] H fun v H' => (∃ N K, v = dyV N K ∧ E6 n k = (N, K)) ∧ Ext H H' := by
 refine A3i.go rfl ?_; unfold u5; refine A0 ?_; simp only [sS]; have hx := Ext.alloc H [.int .i64 0, .int .i64 0]; have hr : (H.alloc [.int .i64 0, .int .i64 0]).blk H.next = some [.int .i64 0, .int .i64 0] := A6 _ _; have hrl : H.next < (H.alloc [.int .i64 0, .int .i64 0]).next := Nat.lt_succ_self _; generalize H.alloc [.int .i64 0, .int .i64 0] = H1 at hx hr hrl ⊢; have hnx := hx.next; refine A0 ?_; simp only [sS]; refine (C8l lim n k H1 (by omega) hk hn).mono ?_; rintro _ H2 ⟨⟨N, K, rfl, hlow⟩, hx2⟩; have hnx2 := hx2.next; have hst : C8 lim (H2.alloc [.int .i64 0, .int .i64 0]) 2 (.pointer (some ⟨H2.next, 0, none⟩)) (dyV N K) = some (undef, (H2.alloc [.int .i64 0, .int .i64 0]).put H2.next [vi N, vi (K : Int)]) := X4 (by omega) (A6 _ _); simp only [sS, hst]; have hx3 : Ext H2 ((H2.alloc [.int .i64 0, .int .i64 0]).put H2.next [vi N, vi (K : Int)]) := Chg.ext (Ext.alloc _ _) (Chg.put _ _ _) (Nat.le_refl _); have ho4 : ((H2.alloc [.int .i64 0, .int .i64 0]).put H2.next [vi N, vi (K : Int)]).blk H2.next = some [vi N, vi (K : Int)] := D3 _ _ _; generalize (H2.alloc [.int .i64 0, .int .i64 0]).put H2.next [vi N, vi (K : Int)] = H3 at hx3 ho4 ⊢; have hr3 : H3.blk H.next = some [.int .i64 0, .int .i64 0] := by rw [(hx2.trans hx3).blk _ hrl]; exact hr
 refine A0 ?_; simp only [sS, Z9 ho4, X4 (lim := lim) hl hr3]; refine A3 ?_; simp +decide only [sQ, Z9 (D3 _ _ _)]; exact ⟨⟨N, K, rfl, hlow⟩, Chg.ext ((hx.trans hx2).trans hx3) (Chg.put _ _ _) (Nat.le_refl _)⟩
end Go.Proofs.YtmdeppkfboaepaaGreat
namespace Go.Proofs.YtmdeppkfboaepaaGreat
open Go.Ab Ints
theorem D1w {b : Nat} {H : A1} {x y : Value} (h : H.blk b = some [x, y]) : H.cell b 0 = some x ∧ H.cell b 1 = some y := by
 constructor <;> simp [A1.cell, h]
end Go.Proofs.YtmdeppkfboaepaaGreat
namespace Go.Proofs.YtmdeppkfboaepaaGreat
open Go.Ab
theorem C05 (n : Int) : J5 n < 0 ↔ n < 0 := by
 unfold J5; rcases Int.lt_trichotomy n 0 with h | h | h
 ·rw [if_neg (by omega), if_pos h]; omega
 ·rw [if_neg (by omega), if_neg (by omega)]; omega
 ·rw [if_pos h]; omega
theorem C66 (a b : Tm) : S0 a b < 0 ↔ a.x < b.x ∨ (a.x = b.x ∧ (a.y < b.y ∨ (a.y = b.y ∧ a.z < b.z))) := by
 unfold S0; by_cases h1 : a.x = b.x
 ·by_cases h2 : a.y = b.y
  ·rw [if_neg (by simp [h1]), if_neg (by simp [h2]), C05]; omega
  ·rw [if_neg (by simp [h1]), if_pos h2, C05]; omega
 ·rw [if_pos h1, C05]; omega
theorem A67 (a b : Tm) : S0 a b = 0 ↔ a.x = b.x ∧ a.y = b.y ∧ a.z = b.z := by
 have h1 := C66 a b; have h2 := C66 b a; have h3 := C89 a b; omega
def D0n (t : Tm) : List Tm → List Tm
 | [] => [t]
 | x :: r => if S0 t x < 0 then x :: D0n t r else t :: x :: r
def D36 (P : List Tm) (t : Tm) : List Tm := (D0n t P.reverse).reverse
end Go.Proofs.YtmdeppkfboaepaaGreat
namespace Go.Proofs.YtmdeppkfboaepaaGreat
open Go.Ab
abbrev W (n : Int) : Int := IntKind.i64.wrap n
end Go.Proofs.YtmdeppkfboaepaaGreat
namespace Go.Proofs.YtmdeppkfboaepaaGreat
open Go.Ab
def M8 (t : Tm) : List Tm → Nat
 | [] => 0
 | x :: l => if S0 x t < 0 then M8 t l + 1 else 0
theorem C6q (t : Tm) : ∀ l : List Tm, M8 t l ≤ l.length
 | [] => Nat.le_refl _
 | x :: l => by
   unfold M8; split
   ·have := C6q t l; simp; omega
   ·simp
theorem D39 {H : A1} {s : Value} {l : List Tm} (h : SlT H s l) {k : Nat} (hk : k ≤ l.length) :
 (∃ v, O5 4 s none (some (.int .i64 k)) none = some v ∧ SlT H v (l.take k)) ∧ ∃ v, O5 4 s (some (.int .i64 k)) none none = some v ∧ SlT H v (l.drop k) := by
 have cut : ∀ (i j : Nat), i ≤ j → j ≤ l.length → ((tcs l).drop (i * 4)).take ((j - i) * 4) = tcs ((l.drop i).take (j - i)) := by
  intro i j hij hj; have e : l = l.take i ++ ((l.drop i).take (j - i) ++ (l.drop i).drop (j - i)) := by rw [List.take_append_drop, List.take_append_drop]
  have e2 : tcs l = tcs (l.take i) ++ (tcs ((l.drop i).take (j - i)) ++ tcs ((l.drop i).drop (j - i))) := by rw [← A0u, ← A0u, ← e]
  rw [e2, List.drop_append, List.drop_of_length_le (by rw [A3v]; simp; omega), List.nil_append, A3v]; have : i * 4 - (l.take i).length * 4 = 0 := by simp; omega
  rw [this, List.drop_zero, List.take_append_of_le_length (by rw [A3v]; simp; omega), List.take_of_length_le (by rw [A3v]; simp; omega)]
 refine ⟨?_, ?_⟩
 ·obtain ⟨v, h1, h2⟩ := Sl.slc h (i := 0) (j := k) (lo := none) (hi := some (.int .i64 k)) (Nat.zero_le _) hk (.inl ⟨rfl, rfl⟩) (.inr ⟨.i64, rfl⟩); refine ⟨v, h1, ?_⟩; rw [cut 0 k (Nat.zero_le _) hk] at h2; unfold SlT; simp only [List.drop_zero, Nat.sub_zero] at h2; have : (l.take k).length = k := by simp; omega
  rw [this]; exact h2
 ·obtain ⟨v, h1, h2⟩ := Sl.slc h (i := k) (j := l.length) (lo := some (.int .i64 k)) (hi := none) hk (Nat.le_refl _) (.inr ⟨.i64, rfl⟩) (.inl ⟨rfl, rfl⟩); refine ⟨v, h1, ?_⟩; rw [cut k l.length hk (Nat.le_refl _)] at h2; unfold SlT; have e1 : (l.drop k).take (l.length - k) = l.drop k := List.take_of_length_le (by simp); rw [e1] at h2; have : (l.drop k).length = l.length - k := by simp
  rw [this]; exact h2
theorem B92 {t : Tm} : ∀ {l : List Tm} {k : Nat} (hk : k < l.length), k ≤ M8 t l → (if S0 l[k] t < 0 then k + 1 ≤ M8 t l else k = M8 t l)
 | [], k, hk, _ => by simp at hk
 | x :: l, 0, hk, h => by
   simp only [List.getElem_cons_zero]; unfold M8; by_cases hx : S0 x t < 0
   ·rw [if_pos hx, if_pos hx]; omega
   ·rw [if_neg hx, if_neg hx]
 | x :: l, k + 1, hk, h => by
   simp only [List.getElem_cons_succ]; have hx : S0 x t < 0 := by
    by_cases hx : S0 x t < 0
    ·exact hx
    ·unfold M8 at h; rw [if_neg hx] at h; omega
   have h' : k ≤ M8 t l := by unfold M8 at h; rw [if_pos hx] at h; omega
   have := B92 (t := t) (l := l) (k := k) (by simpa using hk) h'; unfold M8; rw [if_pos hx]; split
   ·rename_i h2; rw [if_pos h2] at this; omega
   ·rename_i h2; rw [if_neg h2] at this; omega
end Go.Proofs.YtmdeppkfboaepaaGreat
namespace Go.Proofs.YtmdeppkfboaepaaGreat
open Go.Ab
def cg (a b : Int) : Prop := (18446744073709551616 : Int) ∣ a - b
def inR (a : Int) : Prop := -9223372036854775808 ≤ a ∧ a < 9223372036854775808
theorem cg.refl (a : Int) : cg a a := ⟨0, by omega⟩
theorem cg.of_eq {a b : Int} (h : a = b) : cg a b := h ▸ cg.refl a
theorem cg.trans {a b c : Int} (h : cg a b) (g : cg b c) : cg a c := by obtain ⟨k, h⟩ := h; obtain ⟨m, g⟩ := g; exact ⟨k + m, by omega⟩
theorem cg.add {a b c d : Int} (h : cg a b) (g : cg c d) : cg (a + c) (b + d) := by obtain ⟨k, h⟩ := h; obtain ⟨m, g⟩ := g; exact ⟨k + m, by omega⟩
theorem cg.mul {a b c d : Int} (h : cg a b) (g : cg c d) : cg (a * c) (b * d) := by
 obtain ⟨k, h⟩ := h; obtain ⟨m, g⟩ := g; refine ⟨k * c + b * m, ?_⟩; have e : a * c - b * d = (a - b) * c + b * (c - d) := by rw [Int.sub_mul, Int.mul_sub]; omega
 rw [e, h, g, Int.mul_add, Int.mul_assoc, Int.mul_left_comm b]
theorem C4q (a : Int) : cg (W a) a := by
 unfold W; rw [IntKind.wrap_i64]; refine ⟨-((a + 9223372036854775808) / 18446744073709551616), ?_⟩; omega
theorem C8f (a : Int) : inR (W a) := by
 unfold W inR; rw [IntKind.wrap_i64]; omega
theorem cg.eq {a b : Int} (h : cg a b) (h1 : inR a) (h2 : inR b) : a = b := by
 obtain ⟨k, h⟩ := h; unfold inR at *
 omega
def cs (k : Tm) : List Tm → Int
 | [] => 0
 | t :: l => (if S0 t k = 0 then t.c else 0) + cs k l
def A58 (t : Tm) : List Tm → List Tm
 | [] => if t.c = 0 then [] else [t]
 | x :: l => if S0 x t < 0 then x :: A58 t l else if S0 x t = 0 then (if W (t.c + x.c) = 0 then l else { t with c := W (t.c + x.c) } :: l) else if t.c = 0 then x :: l else t :: x :: l
theorem C4b {t y : Tm} : ∀ {l : List Tm}, y ∈ A58 t l → y ∈ l ∨ S0 y t = 0
 | [], h => by
   unfold A58 at h; split at h
   ·simp at h
   ·rw [List.mem_singleton.1 h]; exact .inr (by rw [A67]; simp)
 | x :: l, h => by
   unfold A58 at h; split at h
   ·rcases List.mem_cons.1 h with rfl | h
    ·exact .inl (by simp)
    ·rcases C4b h with h | h
     ·exact .inl (by simp [h])
     ·exact .inr h
   ·split at h
    ·split at h
     ·exact .inl (by simp [h])
     ·rcases List.mem_cons.1 h with rfl | h
      ·exact .inr (by rw [A67]; simp)
      ·exact .inl (by simp [h])
    ·split at h
     ·exact .inl h
     ·rcases List.mem_cons.1 h with rfl | h
      ·exact .inr (by rw [A67]; simp)
      ·exact .inl h
theorem A18 (t : Tm) : ∀ l : List Tm, (A58 t l).length ≤ l.length + 1
 | [] => by unfold A58; split <;> simp
 | x :: l => by
   have ih := A18 t l; unfold A58; split
   ·simp; omega
   ·split
    ·split <;> simp <;> omega
    ·split <;> simp
end Go.Proofs.YtmdeppkfboaepaaGreat
namespace Go.Proofs.YtmdeppkfboaepaaGreat
open Go.Ab
def exB (t : Tm) : Prop := (-1000000 ≤ t.x ∧ t.x ≤ 1000000) ∧ (-1000000 ≤ t.y ∧ t.y ≤ 1000000) ∧ (-1000000 ≤ t.z ∧ t.z ≤ 1000000)
theorem B9w (lim : Nat) (a b : Tm) (H : A1) (ha : exB a) (hb : exB b) : A5 Tryz.prog lim A56 [tv a, tv b] H fun v H' => v = .int .i64 (S0 a b) ∧ Ext H H' := by
 obtain ⟨b1, b2, b3⟩ := ha; obtain ⟨c1, c2, c3⟩ := hb; refine A4h.go rfl ?_; unfold A1g S0; refine A0 ?_; simp only [sS, B8r]; have hA := J8.mk' H a; have hB := J8.mk' (H.alloc (tc a)) b; replace hA := hA.mono hB.ext; generalize (H.alloc (tc a)).alloc (tc b) = H1 at hA hB ⊢; generalize (H.alloc (tc a)).next = q at hB ⊢; generalize H.next = p at hA ⊢; have hx := hA.ext; have w1 : IntKind.i64.wrap (a.x - b.x) = a.x - b.x := by rw [IntKind.wrap_i64]; omega
 have w2 : IntKind.i64.wrap (a.y - b.y) = a.y - b.y := by rw [IntKind.wrap_i64]; omega
 have w3 : IntKind.i64.wrap (a.z - b.z) = a.z - b.z := by rw [IntKind.wrap_i64]; omega
 refine A7 ?_; refine E1 ?_; simp only [sS, Nat.zero_add, hA.c1, hB.c1]; refine C4.split (fun h => ?_) (fun h => ?_)
 ·refine A0 ?_; simp only [sS, Nat.zero_add, hA.c1, hB.c1, w1]; refine (O9 _ _ _).eq ?_; simp only [sS]; refine A3 ?_; simp +decide only [sQ]; rw [if_pos (by simpa using h)]; exact ⟨rfl, hx⟩
 ·refine E1 ?_; simp only [sS, Nat.zero_add, hA.c2, hB.c2]; refine C4.split (fun h2 => ?_) (fun h2 => ?_)
  ·refine A0 ?_; simp only [sS, Nat.zero_add, hA.c2, hB.c2, w2]; refine (O9 _ _ _).eq ?_; simp only [sS]; refine A3 ?_; simp +decide only [sQ]; rw [if_neg (by simpa using h), if_pos (by simpa using h2)]; exact ⟨rfl, hx⟩
  ·refine A2 ?_; simp +decide only [sQ]; refine A0 ?_; simp only [sS, Nat.zero_add, hA.c3, hB.c3, w3]; refine (O9 _ _ _).eq ?_; simp only [sS]; refine A3 ?_; simp +decide only [sQ]; rw [if_neg (by simpa using h), if_neg (by simpa using h2)]; exact ⟨rfl, hx⟩
def A98 (t : Tm) (l : List Tm) (c : Int) (j : Nat) : Prop :=
 A58 t l = l.take (M8 t l) ++ (if c = 0 then [] else [{ t with c := c }]) ++ l.drop j
theorem B94 {t : Tm} : ∀ {l : List Tm} (h : M8 t l < l.length), S0 (l[M8 t l]'h) t = 0 → A98 t l (W (t.c + (l[M8 t l]'h).c)) (M8 t l + 1)
 | [], h, _ => by simp at h
 | x :: l, h, he => by
   unfold A98; by_cases hx : S0 x t < 0
   ·have e : M8 t (x :: l) = M8 t l + 1 := by rw [M8, if_pos hx]
    have hlt : M8 t l < l.length := by rw [e] at h; simpa using h
    simp only [e, List.getElem_cons_succ] at he ⊢; have ih := B94 hlt he; unfold A98 at ih; rw [A58, if_pos hx, ih]; simp
   ·have e : M8 t (x :: l) = 0 := by rw [M8, if_neg hx]
    simp only [e, List.getElem_cons_zero] at he ⊢; rw [A58, if_neg hx, if_pos he]; split <;> simp
theorem B5u {t : Tm} : ∀ {l : List Tm}, (∀ h : M8 t l < l.length, S0 (l[M8 t l]'h) t ≠ 0) → A98 t l t.c (M8 t l)
 | [], _ => by
   unfold A98 A58; split <;> simp [M8]
 | x :: l, h => by
   unfold A98; by_cases hx : S0 x t < 0
   ·have e : M8 t (x :: l) = M8 t l + 1 := by rw [M8, if_pos hx]
    have ih := B5u (t := t) (l := l) (fun hlt => by
     have := h (by rw [e]; simpa using hlt); simpa only [e, List.getElem_cons_succ] using this)
    unfold A98 at ih; rw [A58, if_pos hx, ih, e]; simp
   ·have e : M8 t (x :: l) = 0 := by rw [M8, if_neg hx]
    have he : S0 x t ≠ 0 := by simpa only [e, List.getElem_cons_zero] using h (by rw [e]; simp)
    rw [A58, if_neg hx, if_neg he, e]; split <;> simp
theorem B5h {lim : Nat} {H : A1} {b : Nat} {v x : Value} {l m : List Tm} (h : G8 H b v l) (hx : SlT H x m) (hl : lim ≤ b) (hn : l.length + m.length ≤ 1000000) :
 ∃ v' H' b', E4 lim H 4 32 v x = some (v', H') ∧ G8 H' b' v' (l ++ m) ∧ (b' = b ∨ H.next ≤ b' ∧ b' < H'.next) ∧ Chg b H H' := by
 obtain ⟨v', H', b', h1, h2, h3, h4, h5⟩ := Vec.append h (lim := lim) hl hx (by decide) (bytes := 32) (by omega); have h2' : G8 H' b' v' (l ++ m) := by
  unfold G8; rw [List.length_append, A0u]; exact h2
 exact ⟨v', H', b', h1, h2', h3.imp id fun h => by omega, h4⟩
theorem C1l (lim : Nat) (s : Value) (l : List Tm) (t : Tm) (H : A1) (hl : lim ≤ H.next) (hs : SlT H s l) (hn : l.length ≤ 10000) (hok : ∀ x ∈ l, exB x) (ht : exB t) :
 A5 Tryz.prog lim C04 [s, tv t] H fun v H' => ∃ b, H.next ≤ b ∧ b ≤ H'.next ∧ G8 H' b v (A58 t l) ∧ Ext H H' := by
 refine B8m.go rfl ?_; unfold B0m; refine A0 ?_; simp only [sS, B8r]; have hB := J8.mk' H t; generalize H.alloc (tc t) = H1 at hB ⊢; generalize hpe : H.next = p at hB hl ⊢; have hpl := C6q t l; refine A0 ?_; simp only [sS]; refine N9 (fun e' H' => J8 H H' p t ∧ e' = [s, tv t, .pointer (some ⟨p, 0, none⟩), .slice none 0 0, .int .i64 (M8 t l), undef, undef]) ?_ ?_
 ·refine A8 ?_; refine B9 (fun j e' H' => ∃ k : Nat, k + j = l.length ∧ k ≤ M8 t l ∧ J8 H H' p t ∧ e' = [s, tv t, .pointer (some ⟨p, 0, none⟩), .slice none 0 0, .int .i64 k, undef, undef]) l.length ⟨0, by omega, Nat.zero_le _, hB, rfl⟩ ?_; clear hB; rintro j e' H2 ⟨k, hkj, hkp, hB, rfl⟩; have hs2 := hs.ext hB.ext; refine A9 ?_; by_cases hk : k < l.length
  ·have d1 : decide ((k : Int) < (l.length : Int)) = true := decide_eq_true (by omega); obtain ⟨b1, o1, h1, a1⟩ := hs2.at hk; have hst := B92 (t := t) hk hkp; simp only [sS, hs.lenV, d1, h1, a1.all, hB.all]; refine (B9w _ _ _ _ (hok _ (List.getElem_mem hk)) ht).mono ?_; rintro _ H3 ⟨rfl, hx3⟩; have hB3 := hB.mono hx3; simp only [sS]; refine C4.split (fun hg => ?_) (fun hg => ?_)
   ·have hlt : S0 l[k] t < 0 := by simpa using hg
    rw [if_pos hlt] at hst; refine A2 ?_; simp +decide only [sQ]; refine A8 ?_; refine A4 ?_; simp only [sS, D6 (i := k) (by omega)]; simp +decide only [sQ]; exact C6.mk (j - 1) (by omega) ⟨k + 1, by omega, hst, hB3, rfl⟩
   ·have hge3 : ¬ S0 l[k] t < 0 := by simpa using hg
    rw [if_neg hge3] at hst; refine B8 ?_; simp +decide only [sQ, reduceIte]; rw [← hst]; exact ⟨hB3, rfl⟩
  ·have d1 : decide ((k : Int) < (l.length : Int)) = false := decide_eq_false (by omega); simp only [sS, hs.lenV, d1]; refine C4.false_ (B8 ?_); simp +decide only [sQ, reduceIte]; have : k = M8 t l := by omega
   rw [← this]; exact ⟨hB, rfl⟩
 clear hB; rintro e'' H3 ⟨hB3, rfl⟩; have hge := hB3.ge; have hnx3 := hB3.ext.next; have hs3 := hs.ext hB3.ext; obtain ⟨⟨v1, m1, m2⟩, v2, m3, m4⟩ := D39 hs3 hpl; refine A0 ?_; simp only [sS, m3]; refine N9 (fun e' H4 => ∃ (c : Int) (j : Nat) (v5 : Value), A98 t l c j ∧ SlT H4 v5 (l.drop j) ∧ Ext H H4 ∧ J8 H H4 p { t with c := c } ∧ e' = [s, tv t, .pointer (some ⟨p, 0, none⟩), .slice none 0 0, .int .i64 (M8 t l), v5, undef]) ?_ ?_
 ·refine E1 ?_; by_cases hk : M8 t l < l.length
  ·have d1 : decide ((M8 t l : Int) < (l.length : Int)) = true := decide_eq_true (by omega); obtain ⟨b1, o1, h1, a1⟩ := hs3.at hk; simp only [sS, hs.lenV, d1, h1, a1.all, hB3.all]; refine (B9w _ _ _ _ (hok _ (List.getElem_mem hk)) ht).mono ?_; rintro _ H4 ⟨rfl, hx4⟩; have hB4 := hB3.mono hx4; have hs4 := hs3.ext hx4; simp only [sS]; refine C4.split (fun hg => ?_) (fun hg => ?_)
   ·have hze : S0 l[M8 t l] t = 0 := by simpa using hg
    obtain ⟨b4, o4, h4, a4⟩ := hs4.at hk; obtain ⟨cs4, t4, hB5⟩ := hB4.put0 (lim := lim) (by omega) (W (t.c + l[M8 t l].c)); have hs5 := hs.ext hB5.ext; obtain ⟨_, v6, m6, m7⟩ := D39 hs5 (k := M8 t l + 1) (by omega); refine A0 ?_; simp only [sS, Nat.add_zero, hB4.c0, h4, a4.c, t4]; refine A4 ?_; simp only [sS, D6 (i := M8 t l) (by omega), m6]; simp +decide only [sQ]; exact ⟨_, _, _, B94 hk hze, m7, hB5.ext, hB5, rfl⟩
   ·have hze : S0 l[M8 t l] t ≠ 0 := by simpa using hg
    refine A2 ?_; simp +decide only [sQ]; exact ⟨t.c, _, _, B5u (fun _ => hze), m4.ext hx4, hB4.ext, hB4, rfl⟩
  ·have d1 : decide ((M8 t l : Int) < (l.length : Int)) = false := decide_eq_false (by omega); simp only [sS, hs.lenV, d1]; refine C4.false_ (A2 ?_); simp +decide only [sQ]; exact ⟨t.c, _, _, B5u (fun h => absurd h hk), m4, hB3.ext, hB3, rfl⟩
 clear hB3 m4 m3 v2 m1 m2 v1 hnx3 hs3; rintro e'' H4 ⟨c, j, v2, hput, m4, hx4, hB4, rfl⟩; have hnx4 := hx4.next; have hs4 := hs.ext hx4; obtain ⟨⟨v1, m1, m2⟩, _⟩ := D39 hs4 hpl; obtain ⟨v5, H5, b5, g1, g2, g3, g4, g5⟩ := B3i (lim := lim) (by omega) m2 (by simp; omega); have hB5 := hB4.mono g5; refine A0 ?_; simp only [sS, B44, m1, g1]; refine N9 (fun e' H6 => ∃ (b6 : Nat) (v6 : Value), G8 H6 b6 v6 (l.take (M8 t l) ++ if c = 0 then [] else [{ t with c := c }]) ∧ H4.next ≤ b6 ∧ b6 < H6.next ∧ Ext H4 H6 ∧ e' = [s, tv t, .pointer (some ⟨p, 0, none⟩), .slice none 0 0, .int .i64 (M8 t l), v2, v6]) ?_ ?_
 ·refine E1 ?_; simp only [sS, Nat.zero_add, hB5.c0]; refine C4.split (fun hg => ?_) (fun hg => ?_)
  ·have hc : c ≠ 0 := by simpa using hg
   obtain ⟨v6, H6, b6, q1, q2, q3, q4, q5⟩ := D4b (lim := lim) g2 { t with c := c } (by omega) (by simp; omega); refine A4 ?_; simp only [sS, hB5.all, D0y, q1]; simp +decide only [sQ]; rw [if_neg hc]; exact ⟨b6, v6, q2, by rcases q3 with rfl | q3; exact g3; have := g5.next; omega, q4, Chg.ext g5 q5 g3, rfl⟩
  ·have hc : c = 0 := by simpa using hg
   refine A2 ?_; simp +decide only [sQ]; rw [if_pos hc, List.append_nil]; exact ⟨b5, v5, g2, g3, g4, g5, rfl⟩
 rintro e'' H6 ⟨b6, v6, q2, q3, q4, hx6, rfl⟩; have hlen : (l.take (M8 t l) ++ if c = 0 then [] else [{ t with c := c }]).length ≤ 10001 := by
  rw [List.length_append, List.length_take]; split <;> simp <;> omega
 obtain ⟨v7, H7, b7, r1, r2, r3, r5⟩ := B5h (lim := lim) q2 (m4.ext hx6) (by omega) (by simp only [List.length_drop]; omega); have hx7 : Ext H4 H7 := Chg.ext hx6 r5 q3; have hn6 := hx6.next; have hn7 := r5.next; have hb7 : H4.next ≤ b7 ∧ b7 ≤ H7.next := by rcases r3 with rfl | r3 <;> omega
 refine A0 ?_; simp only [sS, r1]; refine A3 ?_; simp +decide only [sQ]; unfold A98 at hput; rw [hput]; exact ⟨b7, by omega, hb7.2, r2, hx4.trans hx7⟩
end Go.Proofs.YtmdeppkfboaepaaGreat
namespace Go.Proofs.YtmdeppkfboaepaaGreat
open Go.Ab
theorem J8.low {Hb Hb' H : A1} {q : Nat} {t : Tm} (h : J8 Hb H q t) (hx : Ext Hb' Hb) : J8 Hb' H q t := ⟨hx.trans h.ext, Nat.le_trans hx.next h.ge, h.lt, h.blk⟩
theorem J8.chg {Hb H H' : A1} {q b : Nat} {t : Tm} (h : J8 Hb H q t) (hc : Chg b H H') (hb : Hb.next ≤ b) (hne : q ≠ b) : J8 Hb H' q t :=
 ⟨Chg.ext h.ext hc hb, h.ge, Nat.lt_of_lt_of_le h.lt hc.next, by rw [hc.blk q h.lt hne]; exact h.blk⟩
end Go.Proofs.YtmdeppkfboaepaaGreat
namespace Go.Proofs.YtmdeppkfboaepaaGreat
open Go.Ab
theorem D21 {t : Tm} (h : Z6 t = true) : exB t := by have := B7a h; unfold exB; omega
end Go.Proofs.YtmdeppkfboaepaaGreat
namespace Go.Proofs.YtmdeppkfboaepaaGreat
open Go.Ab
theorem J8.putf {lim : Nat} {Hb H : A1} {q : Nat} {t : Tm} (h : J8 Hb H q t) (hl : lim ≤ q) (c : Int) {j : Nat} (hj : j < 4) : ∃ cs, C8 lim H 1 (.pointer (some ⟨q, j, none⟩)) (.int .i64 c) = some (undef, H.put q cs) ∧ J8 Hb (H.put q cs) q (t.upd j c) := by
 refine ⟨_, B93 .i64 c hl h.blk (by simpa [tc] using hj), Chg.ext h.ext (Chg.put _ _ _) h.ge, h.ge, h.lt, ?_⟩; rw [D3]
 match j, hj with
 | 0, _ => rfl
 | 1, _ => rfl
 | 2, _ => rfl
 | 3, _ => rfl
def wi (t : Tm) (k n : Int) : Tm := if k = 0 then { t with x := n } else if k = 1 then { t with y := n } else { t with z := n }
theorem B2p (lim : Nat) (t : Tm) (k n : Int) (H : A1) (hl : lim ≤ H.next) : A5 Tryz.prog lim B9d [tv t, .int .i64 k, .int .i64 n] H fun v H' => v = tv (wi t k n) ∧ Ext H H' := by
 refine B7k.go rfl ?_; unfold A7x; refine A0 ?_; simp only [sS, B8r]; have hB := J8.mk' H t; have hn1 : (H.alloc (tc t)).next = H.next + 1 := rfl; generalize H.alloc (tc t) = H1 at hB hn1 ⊢; have hx2 := Ext.alloc H1 [.int .i64 0, .int .i64 0, .int .i64 0, .int .i64 0]; have hr : (H1.alloc [.int .i64 0, .int .i64 0, .int .i64 0, .int .i64 0]).blk H1.next = some [.int .i64 0, .int .i64 0, .int .i64 0, .int .i64 0] := A6 _ _; have hn2 : (H1.alloc [.int .i64 0, .int .i64 0, .int .i64 0, .int .i64 0]).next = H1.next + 1 := rfl; replace hB := hB.mono hx2; generalize H1.alloc [.int .i64 0, .int .i64 0, .int .i64 0, .int .i64 0] = H2 at hB hr hn2 ⊢; generalize hre : H1.next = r at hr hn2 ⊢; generalize hpe : H.next = p at hB hl ⊢; have hpr : p ≠ r := by omega
 refine A0 ?_; simp only [sS]; refine C9v (fun e' H' => J8 H H' p (wi t k n) ∧ H'.blk r = some [.int .i64 0, .int .i64 0, .int .i64 0, .int .i64 0] ∧ e' = [tv t, .int .i64 k, .int .i64 n, .pointer (some ⟨p, 0, none⟩), .pointer (some ⟨r, 0, none⟩), .int .i64 k]) ?_ ?_
 ·refine A8 ?_; refine E1 ?_; simp only [sS]; refine C4.split (fun h => ?_) (fun h => ?_)
  ·obtain ⟨cs, g1, g2⟩ := hB.putf (lim := lim) (by omega) n (j := 1) (by omega); refine A4 ?_; simp only [sS, Nat.zero_add, g1]; simp +decide only [sQ]; have e : wi t k n = t.upd 1 n := by unfold wi; rw [if_pos (by simpa using h)]; rfl
   rw [e]; exact ⟨g2, by rw [K5 _ _ (Ne.symm hpr)]; exact hr, trivial⟩
  ·refine E1 ?_; simp only [sS]; refine C4.split (fun h2 => ?_) (fun h2 => ?_)
   ·obtain ⟨cs, g1, g2⟩ := hB.putf (lim := lim) (by omega) n (j := 2) (by omega); refine A4 ?_; simp only [sS, Nat.zero_add, g1]; simp +decide only [sQ]; have e : wi t k n = t.upd 2 n := by unfold wi; rw [if_neg (by simpa using h), if_pos (by simpa using h2)]; rfl
    rw [e]; exact ⟨g2, by rw [K5 _ _ (Ne.symm hpr)]; exact hr, trivial⟩
   ·obtain ⟨cs, g1, g2⟩ := hB.putf (lim := lim) (by omega) n (j := 3) (by omega); refine A4 ?_; simp only [sS, Nat.zero_add, g1]; simp +decide only [sQ]; have e : wi t k n = t.upd 3 n := by unfold wi; rw [if_neg (by simpa using h), if_neg (by simpa using h2)]; rfl
    rw [e]; exact ⟨g2, by rw [K5 _ _ (Ne.symm hpr)]; exact hr, trivial⟩
 rintro e' H3 ⟨hB3, hr3, rfl⟩; refine A0 ?_; have hst : C8 lim H3 4 (.pointer (some ⟨r, 0, none⟩)) (tv (wi t k n)) = some (undef, H3.put r (tc (wi t k n))) := C1n (by omega) hr3; simp only [sS, hB3.all, hst]; refine A3 ?_; have hld : D5 (H3.put r (tc (wi t k n))) 4 (.pointer (some ⟨r, 0, none⟩)) = some (tv (wi t k n)) := C0l (D3 _ _ _); simp +decide only [sQ, hld]; exact ⟨trivial, Chg.ext hB3.ext (Chg.put _ _ _) (by omega)⟩
end Go.Proofs.YtmdeppkfboaepaaGreat
namespace Go.Proofs.YtmdeppkfboaepaaGreat
open Go.Ab
def E (B : Int) (t : Tm) : Prop := (0 ≤ t.x ∧ t.x ≤ B) ∧ (0 ≤ t.y ∧ t.y ≤ B) ∧ (0 ≤ t.z ∧ t.z ≤ B)
def upT (k : Int) (t : Tm) : Tm := wi t k (pw t k + 1)
def xk (k : Int) : Tm := wi ⟨1, 0, 0, 0⟩ k 1
def t0 (k : Int) (t : Tm) : Tm := wi t k 0
theorem C20 {t : Tm} (h : Z6 t = true) (k : Int) : 0 ≤ pw t k ∧ pw t k ≤ 4 := by
 have hb := B7a h; unfold pw; split
 ·omega
 ·split <;> omega
theorem C0f (m : Int) : ∀ l : List Tm, A2z m l = true ↔ ∀ t ∈ l, B04 m t 0 = true
 | [] => by simp [A2z]
 | t :: l => by
   rw [A2z, Bool.and_eq_true, C0f m l]; simp
end Go.Proofs.YtmdeppkfboaepaaGreat
namespace Go.Proofs.YtmdeppkfboaepaaGreat
open Go.Ab
def ev (φ : Tm → Int) : List Tm → Int
 | [] => 0
 | t :: l => t.c * φ t + ev φ l
theorem B9r (φ : Tm → Int) : ∀ l m : List Tm, ev φ (l ++ m) = ev φ l + ev φ m
 | [], m => by simp [ev]
 | t :: l, m => by rw [List.cons_append, ev, ev, B9r φ l]; omega
def D (k n : Int) (φ : Tm → Int) (u : Tm) : Int := φ (upT k u) - n * φ u
def Dp (k n : Int) : Nat → (Tm → Int) → Tm → Int
 | 0, φ => φ
 | e + 1, φ => D k n (Dp k n e φ)
def A (k n : Int) (φ : Tm → Int) (t : Tm) : Int := Dp k n (pw t k).toNat φ (t0 k t)
end Go.Proofs.YtmdeppkfboaepaaGreat
namespace Go.Proofs.YtmdeppkfboaepaaGreat
open Go.Ab
theorem A07 (t : Tm) : Z6 t = true ↔ -1000 ≤ t.c ∧ t.c ≤ 1000 ∧ 0 ≤ t.x ∧ t.x ≤ 4 ∧ 0 ≤ t.y ∧ t.y ≤ 4 ∧ 0 ≤ t.z ∧ t.z ≤ 4 ∧ t.x + t.y + t.z ≤ 4 := by
 simp only [Z6, Bool.and_eq_true, decide_eq_true_eq]; omega
end Go.Proofs.YtmdeppkfboaepaaGreat
namespace Go.Proofs.YtmdeppkfboaepaaGreat
open Go.Ab Ints
theorem A9d {lim : Nat} {H : A1} {p q x y : Value} (hl : lim ≤ H.next) : C8 lim (H.alloc [p, q]) 2 (.pointer (some ⟨H.next, 0, none⟩)) (.agg #[x, y]) = some (undef, H.alloc [x, y]) := by
 rw [X4 hl (A6 _ _), d8]
structure T0 (H H1 : A1) (p : Nat) (n : Int) : Prop where
 ext : Ext H H1
 ge : H.next ≤ p
 lt : p < H1.next
 blk : H1.blk p = some [vi n, vi 0]
theorem T0.c0 {H H1 : A1} {p : Nat} {n : Int} (h : T0 H H1 p n) : H1.cell p 0 = some (vi n) := (D1w h.blk).1
theorem T0.c1 {H H1 : A1} {p : Nat} {n : Int} (h : T0 H H1 p n) : H1.cell p 1 = some (vi 0) := (D1w h.blk).2
theorem C2y (lim : Nat) (n : Int) (H : A1) (hl : lim ≤ H.next) : A5 Tryz.prog lim C1f [.int .i64 n] H fun v H' => v = .agg #[vi n, vi 0] ∧ Ext H H' := by
 refine B8j.go rfl ?_; unfold B1i; refine A0 ?_; simp only [sS]; have hx := Ext.alloc H [.int .i64 0, .int .i64 0]; have hb : (H.alloc [.int .i64 0, .int .i64 0]).blk H.next = some [.int .i64 0, .int .i64 0] := A6 _ _; generalize H.alloc [.int .i64 0, .int .i64 0] = H1 at hx hb ⊢; have hf : C9 [.int .i64 0, .int .i64 0] [(0, 1, .int .i64 n)] = some [vi n, vi 0] := by simp [C9, C2]
 refine A0 ?_; simp only [sS, hf, X4 (lim := lim) hl hb]; refine A3 ?_; simp +decide only [sQ, Z9 (D3 _ _ _)]; exact ⟨trivial, Chg.ext hx (Chg.put _ _ _) (Nat.le_refl _)⟩
end Go.Proofs.YtmdeppkfboaepaaGreat
namespace Go.Proofs.YtmdeppkfboaepaaGreat
open Go.Ab Ints
def A6g (l : List Int) : List Value := l.map fun n => .int .u8 n
structure SlB (H : A1) (s : Value) (l : List Int) : Prop where
 sl : Sl H s l.length 1 (A6g l)
 rng : ∀ n ∈ l, 0 ≤ n ∧ n ≤ 255
 len : l.length ≤ 150000000000000
theorem SlB.ext {H H' : A1} {s : Value} {l : List Int} (h : SlB H s l) (hx : Ext H H') : SlB H' s l := ⟨Sl.keep h.sl (T8.of_ext hx (Nat.le_refl _)) (Nat.le_refl _), h.rng, h.len⟩
structure Cu (B H : A1) (q : Nat) (s : Value) (m : Nat) : Prop where
 ext : Ext B H
 ge : B.next ≤ q
 lt : q < H.next
 blk : ∃ (a : Nat) (z : Int), H.blk q = some [s, .int .i64 a, .int .u64 z] ∧ a ≤ m
theorem Cu.of_ext {B H H' : A1} {q m : Nat} {s : Value} (h : Cu B H q s m) (hx : Ext H H') : Cu B H' q s m :=
 ⟨h.ext.trans hx, h.ge, Nat.lt_of_lt_of_le h.lt hx.next, by rw [hx.blk _ h.lt]; exact h.blk⟩
theorem Cu.le {B H : A1} {q m m' : Nat} {s : Value} (h : Cu B H q s m) (hm : m ≤ m') : Cu B H q s m' :=
 ⟨h.ext, h.ge, h.lt, by obtain ⟨a, z, h1, h2⟩ := h.blk; exact ⟨a, z, h1, Nat.le_trans h2 hm⟩⟩
theorem Cu.chg {B H H' : A1} {q m b : Nat} {s : Value} (h : Cu B H q s m) (hc : Chg b H H') (hb : B.next ≤ b) (hne : q ≠ b) : Cu B H' q s m :=
 ⟨Chg.ext h.ext hc hb, h.ge, Nat.lt_of_lt_of_le h.lt hc.next, by rw [hc.blk _ h.lt hne]; exact h.blk⟩
theorem B45 {lim b : Nat} {H : A1} {p q r x : Value} {k : IntKind} {n : Int} (hx : x = .int k n) (hl : lim ≤ b) (h : H.blk b = some [p, q, r]) :
 C8 lim H 1 (.pointer (some ⟨b, 1, none⟩)) x = some (undef, H.put b [p, x, r]) ∧ C8 lim H 1 (.pointer (some ⟨b, 2, none⟩)) x = some (undef, H.put b [p, q, x]) := by
 subst hx
 constructor
 ·simp [C8, h, C2, F8, hl]
 ·simp [C8, h, C2, F8, hl]
theorem A04 (n : Int) : IntKind.u64.wrap n = n % 18446744073709551616 := by
 simp [IntKind.wrap, IntKind.bits, IntKind.signed]
theorem D35 (a : Int) : ∃ r : Int, 0 ≤ r ∧ r ≤ 255 ∧ IntKind.u64.wrap ((BitVec.ofInt IntKind.u64.bits a &&& BitVec.ofInt IntKind.u64.bits 255).toNat : Int) = r ∧ IntKind.i64.wrap r = r := by
 have h1 : (BitVec.ofInt IntKind.u64.bits a &&& BitVec.ofInt IntKind.u64.bits 255).toNat ≤ 255 := by
  rw [BitVec.toNat_and]; exact Nat.le_trans Nat.and_le_right (by decide)
 generalize (BitVec.ofInt IntKind.u64.bits a &&& BitVec.ofInt IntKind.u64.bits 255).toNat = r at h1; exact ⟨r, by omega, by omega, by rw [A04]; omega, J0 (by omega)⟩
theorem C51 (lim q m : Nat) (B : A1) (s : Value) (l : List Int) (H : A1) (hl : lim ≤ B.next) (hs : SlB B s l) (hc : Cu B H q s m) (hm : m ≤ 4000000000000000000) :
 A5 Tryz.prog lim A13 [.pointer (some ⟨q, 0, none⟩)] H fun v H' => (∃ x : Int, v = .int .i64 x ∧ 0 ≤ x ∧ x ≤ 255) ∧ Cu B H' q s (m + 1) ∧ Chg q H H' := by
 obtain ⟨hB, hge, hlt, a, z, hb, ha⟩ := hc; have hs1 := hs.ext hB; have c0 : H.cell q 0 = some s := by simp [A1.cell, hb]
 have c1 : H.cell q 1 = some (.int .i64 a) := by simp [A1.cell, hb]
 have hlen := hs1.sl.lenV; refine A1b.go rfl ?_; unfold X6; refine A0 ?_; simp only [sS]; refine A0 ?_; simp only [sS]; refine N9 (fun e' H' => H' = H ∧ ∃ x : Int, 0 ≤ x ∧ x ≤ 255 ∧ e' = [.pointer (some ⟨q, 0, none⟩), .int .i64 0, .int .i64 x]) ?_ ?_
 ·refine D0 (decide ((a : Int) < (l.length : Int))) ?_ (fun hg => ?_) (fun hg => ?_)
  ·simp only [sS, Nat.zero_add, Nat.add_zero, c0, c1, hlen]; simp
  ·have hlt' : a < l.length := by have := of_decide_eq_true hg; omega
   obtain ⟨b1, o1, g1, g2, g3⟩ := hs1.sl.cell .i64 (i := (a : Int)) (by omega) (by omega); have g3' : H.cell b1 o1 = some (.int .u8 l[a]) := by
    rw [g3]; simp [A6g, hlt']
   obtain ⟨r1, r2⟩ := hs.rng _ (List.getElem_mem hlt'); have w1 : IntKind.i64.wrap l[a] = l[a] := E3 (by omega) (by omega); refine A4 ?_; simp only [sS, Nat.zero_add, Nat.add_zero, c0, c1, g1, g3', w1]; simp +decide only [sQ]; exact ⟨trivial, _, r1, r2, rfl⟩
  ·refine A2 ?_; simp +decide only [sQ]; exact ⟨trivial, 0, by omega, by omega, rfl⟩
 rintro e' H' ⟨rfl, x, hx0, hx1, rfl⟩; obtain ⟨st1, _⟩ := B45 (lim := lim) (x := .int .i64 ((a + 1 : Nat) : Int)) rfl (by omega) hb; refine A0 ?_; simp only [sS, Nat.zero_add, c1, D6 (i := a) (by omega), st1]; have hb1 : (H'.put q [s, .int .i64 ((a + 1 : Nat) : Int), .int .u64 z]).blk q = some [s, .int .i64 ((a + 1 : Nat) : Int), .int .u64 z] := D3 _ _ _; have hch1 := Chg.put q H' [s, .int .i64 ((a + 1 : Nat) : Int), .int .u64 z]; generalize H'.put q [s, .int .i64 ((a + 1 : Nat) : Int), .int .u64 z] = H1 at hb1 hch1 ⊢; have d2 : H1.cell q 2 = some (.int .u64 z) := by simp [A1.cell, hb1]
 have st2 : ∀ y : Int, C8 lim H1 1 (.pointer (some ⟨q, 2, none⟩)) (.int .u64 y) = some (undef, H1.put q [s, .int .i64 ((a + 1 : Nat) : Int), .int .u64 y]) := fun y => (B45 (lim := lim) (x := .int .u64 y) rfl (by omega) hb1).2
 refine A0 ?_; simp only [sS, Nat.zero_add, d2, st2]; have hy : ∃ y : Int, 0 ≤ y ∧ y < 18446744073709551616 ∧ IntKind.u64.wrap (IntKind.u64.wrap (IntKind.u64.wrap (z * 6364136223846793005) + IntKind.u64.wrap x) + 1442695040888963407) = y := ⟨_, by rw [A04]; omega, by rw [A04]; omega, rfl⟩; obtain ⟨y, hy0, hy1, hy⟩ := hy; rw [hy]; have hb2 : (H1.put q [s, .int .i64 ((a + 1 : Nat) : Int), .int .u64 y]).blk q = some [s, .int .i64 ((a + 1 : Nat) : Int), .int .u64 y] := D3 _ _ _; have hch2 := hch1.trans (Chg.put q H1 [s, .int .i64 ((a + 1 : Nat) : Int), .int .u64 y]); generalize H1.put q [s, .int .i64 ((a + 1 : Nat) : Int), .int .u64 y] = H2 at hb2 hch2 ⊢; have e0 : H2.cell q 0 = some s := by simp [A1.cell, hb2]
 have e1 : H2.cell q 1 = some (.int .i64 ((a + 1 : Nat) : Int)) := by simp [A1.cell, hb2]
 have e2 : H2.cell q 2 = some (.int .u64 y) := by simp [A1.cell, hb2]
 have hcu : Cu B H2 q s (m + 1) := ⟨Chg.ext hB hch2 hge, hge, Nat.lt_of_lt_of_le hlt hch2.next, _, _, hb2, by omega⟩; refine D7 (decide (((a + 1 : Nat) : Int) ≤ (l.length : Int))) ?_ (fun hg => ?_) (fun hg => ?_)
 ·simp only [sS, Nat.zero_add, Nat.add_zero, e0, e1, hlen]; simp
 ·refine A0 ?_; simp only [sS]; refine A3 ?_; simp +decide only [sQ]; exact ⟨⟨x, rfl, hx0, hx1⟩, hcu, hch2⟩
 ·refine A2 ?_; simp +decide only [sQ]; refine A0 ?_; have v1 : ¬ ((40 : Int) < 0) := by decide
  obtain ⟨r, r1, r2, r3, r4⟩ := D35 (y.fdiv (2 ^ min (40 : Int).toNat IntKind.u64.bits)); simp only [sS, Nat.zero_add, e2, v1, r3, r4]; refine A3 ?_; simp +decide only [sQ]; exact ⟨⟨r, rfl, r1, r2⟩, hcu, hch2⟩
end Go.Proofs.YtmdeppkfboaepaaGreat
namespace Go.Proofs.YtmdeppkfboaepaaGreat
open Go.Ab Ints
def G7 (l : List Int) (t : Tm) : Nat → Int
 | 0 => 1
 | k + 1 => G7 l t k * l.getD k 0 ^ (pw t k).toNat
theorem C7b {φ : Tm → Int} {p : List Tm} {i : Nat} (h : i < p.length) : ev φ (p.take (i + 1)) = ev φ (p.take i) + p[i].c * φ p[i] := by
 rw [List.take_succ_eq_append_getElem h, B9r]; simp [ev]
end Go.Proofs.YtmdeppkfboaepaaGreat
namespace Go.Proofs.YtmdeppkfboaepaaGreat
open Go.Ab Ints
theorem Q9 (H : A1) (k : IntKind) (x : Int) (z : Value) : E0 H 1 [z] [(0, 1, .int k x)] = some (.slice (some ⟨H.next, 0, some 0⟩) 1 1, H.alloc [.int k x]) := by
 simp [E0, C9, C2]
theorem C0.push {lim : Nat} {H : A1} {b : Nat} {v : Value} {l : List Int} (h : C0 H b v l) (x : Int) (hl : lim ≤ b) (hn : l.length ≤ 1000000000) :
 ∃ v' H' b', E4 lim (H.alloc [vi x]) 1 8 v (.slice (some ⟨H.next, 0, some 0⟩) 1 1) = some (v', H') ∧ C0 H' b' v' (l ++ [x]) ∧ (b' = b ∨ H.next ≤ b') ∧ b' < H'.next ∧ Chg b H H' := by
 have hx : Vec (H.alloc [vi x]) H.next (.slice (some ⟨H.next, 0, some 0⟩) 1 1) 1 1 [vi x] := Vec.lit rfl; obtain ⟨v', H', b', h1, h2, h3, h4, h5⟩ := (Vec.ext h (Ext.alloc H [vi x])).append (lim := lim) hl hx.sl (by decide) (bytes := 8) (by omega); refine ⟨v', H', b', h1, by simpa [C0] using h2, ?_, (h2.blk (by omega)).elim fun _ h => h.2, (Chg.of_ext (Ext.alloc H [vi x])).trans h4⟩; rcases h3 with rfl | ⟨rfl, _⟩
 ·exact .inl rfl
 ·exact .inr (Nat.le_succ _)
def A3n (t : Tm) : Nat → Nat
 | 0 => 0
 | k + 1 => A3n t k + (pw t k).toNat
theorem SlI.nil' (H : A1) : SlI H (.slice none 0 0) [] := Vec.sl (Vec.nil H 0 1)
end Go.Proofs.YtmdeppkfboaepaaGreat
namespace Go.Proofs.YtmdeppkfboaepaaGreat
open Go.Ab Ints
theorem I0 {H : A1} {n : Nat} {zs cs : List Value} {ps : List (Nat × Nat × Value)} (h : C9 zs ps = some cs) : E0 H n zs ps = some (.slice (some ⟨H.next, 0, some 0⟩) n n, H.alloc cs) := by
 simp [E0, h]
abbrev Ptr (q : Nat) : Value := .pointer (some ⟨q, 0, none⟩)
theorem J3 (lim q m : Nat) (B : A1) (s : Value) (l : List Int) (n : Int) (H : A1) (hl : lim ≤ B.next) (hs : SlB B s l) (hc : Cu B H q s m) (hm : m ≤ 3000000000000000000) (hn : n ≤ 1000000) :
 A5 Tryz.prog lim Q7 [Ptr q, .int .i64 n] H fun v H' => (∃ x : Int, v = .int .i64 x ∧ 0 ≤ x ∧ (x < n ∨ x = 0)) ∧ Cu B H' q s (m + 2) ∧ Chg q H H' := by
 refine V2.go rfl ?_; unfold Q8; refine A0 ?_; simp only [sS]; refine D7 (decide (n ≤ 1)) ?_ (fun hg => ?_) (fun hg => ?_)
 ·simp only [sS]; simp
 ·refine A0 ?_; simp only [sS]; refine A3 ?_; simp +decide only [sQ]; exact ⟨⟨0, rfl, by omega, .inr rfl⟩, hc.le (by omega), Chg.refl _ _⟩
 have hn1 : 1 < n := by have := of_decide_eq_false hg; omega
 refine A2 ?_; simp +decide only [sQ]; refine A0 ?_; simp only [sS]; refine (C51 lim q m B s l H hl hs hc (by omega)).mono ?_; rintro _ H1 ⟨⟨x, rfl, hx0, hx1⟩, hc1, hch1⟩; simp only [sS]; refine N9 (fun e' H' => ∃ y : Int, 0 ≤ y ∧ y ≤ 65535 ∧ Cu B H' q s (m + 2) ∧ Chg q H H' ∧ e' = [Ptr q, .int .i64 n, .int .i64 0, .int .i64 y]) ?_ ?_
 ·refine D0 (decide (n > 200)) ?_ (fun hg2 => ?_) (fun hg2 => ?_)
  ·simp only [sS]; simp
  ·have w1 : IntKind.i64.wrap (x * 256) = x * 256 := E3 (by omega) (by omega); refine A4 ?_; simp only [sS, w1]; refine (C51 lim q (m + 1) B s l H1 hl hs hc1 (by omega)).mono ?_; rintro _ H2 ⟨⟨y, rfl, hy0, hy1⟩, hc2, hch2⟩; have w2 : IntKind.i64.wrap (x * 256 + y) = x * 256 + y := E3 (by omega) (by omega); simp only [sS, w2]; simp +decide only [sQ]; exact ⟨_, by omega, by omega, hc2, hch1.trans hch2, rfl⟩
  ·refine A2 ?_; simp +decide only [sQ]; exact ⟨x, hx0, by omega, hc1.le (by omega), hch1, rfl⟩
 rintro e' H2 ⟨y, hy0, hy1, hc2, hch2, rfl⟩; have e0 : ¬ (n = 0) := by omega
 refine A0 ?_; simp only [sS, e0]; refine A3 ?_; simp +decide only [sQ]; refine ⟨⟨_, rfl, Int.tmod_nonneg _ hy0, .inl ?_⟩, hc2, hch2⟩; exact Int.tmod_lt_of_pos _ (by omega)
theorem A30 (lim q m : Nat) (B : A1) (s : Value) (l : List Int) (n : Int) (H : A1) (hl : lim ≤ B.next) (hs : SlB B s l) (hc : Cu B H q s m) (hm : m ≤ 3000000000000000000) (hn : n ≤ 1000000) :
 A5 Tryz.prog lim B29 [Ptr q, .int .i64 n] H fun v H' => (∃ x : Bool, v = .bool x) ∧ Cu B H' q s (m + 2) ∧ Chg q H H' := by
 refine B03.go rfl ?_; unfold A3a; refine A0 ?_; simp only [sS]; refine A0 ?_; simp only [sS]; refine (J3 lim q m B s l n H hl hs hc hm hn).mono ?_; rintro _ H1 ⟨⟨x, rfl, _⟩, hc1, hch1⟩; simp only [sS]; refine A3 ?_; simp +decide only [sQ]; exact ⟨⟨_, rfl⟩, hc1, hch1⟩
theorem C8t (lim q m b : Nat) (B : A1) (s v : Value) (l w : List Int) (H : A1) (hl : lim ≤ B.next) (hs : SlB B s l) (hc : Cu B H q s m) (hm : m ≤ 3000000000000000000) (hw : C0 H b v w) (hb : b ≠ q) (hw0 : 0 < w.length) (hw1 : w.length ≤ 1000) :
 A5 Tryz.prog lim A1l [Ptr q, v] H fun v' H' => (∃ x ∈ w, v' = .int .i64 x) ∧ Cu B H' q s (m + 2) ∧ Chg q H H' := by
 refine A7o.go rfl ?_; unfold A0w; refine A0 ?_; simp only [sS]; refine A0 ?_; simp only [sS, hw.lenV]; refine (J3 lim q m B s l w.length H hl hs hc hm (by omega)).mono ?_; rintro _ H1 ⟨⟨x, rfl, hx0, hx1⟩, hc1, hch1⟩; have hw2 : C0 H1 b v w := Vec.chg hw hch1 hb; obtain ⟨b1, o1, g1, g2, g3⟩ := hw2.sl.cell .i64 (i := x) hx0 (by omega); have hlt : x.toNat < w.length := by omega
 have g3' : H1.cell b1 o1 = some (.int .i64 w[x.toNat]) := by
  rw [g3]; simp [hlt]
 simp only [sS, g1, g3']; refine A3 ?_; simp +decide only [sQ]; exact ⟨⟨_, List.getElem_mem hlt, rfl⟩, hc1, hch1⟩
theorem C0.lit (H : A1) (w : List Int) : C0 (H.alloc (w.map vi)) H.next (.slice (some ⟨H.next, 0, some 0⟩) w.length w.length) w := Vec.lit (by simp)
theorem F0 (lim q m : Nat) (B : A1) (s : Value) (l w : List Int) (H : A1) (hl : lim ≤ B.next) (hs : SlB B s l) (hc : Cu B H q s m) (hm : m ≤ 3000000000000000000) (hw0 : 0 < w.length) (hw1 : w.length ≤ 1000) :
 A5 Tryz.prog lim A1l [Ptr q, .slice (some ⟨H.next, 0, some 0⟩) w.length w.length] (H.alloc (w.map vi)) fun v' H' => (∃ x ∈ w, v' = .int .i64 x) ∧ Cu B H' q s (m + 2) ∧ Chg q H H' := by
 have hx := Ext.alloc H (w.map vi); have hlt := hc.lt; refine A5.mono (C8t lim q m H.next B s _ l w _ hl hs (hc.of_ext hx) hm (C0.lit H w) (by omega) hw0 hw1) ?_; rintro v' H' ⟨h1, h2, h3⟩; exact ⟨h1, h2, (Chg.of_ext hx).trans h3⟩
theorem B8c (lim q m : Nat) (B : A1) (s : Value) (l : List Int) (H : A1) (hl : lim ≤ B.next) (hs : SlB B s l) (hc : Cu B H q s m) (hm : m ≤ 2900000000000000000) :
 A5 Tryz.prog lim A3p [Ptr q] H fun v' H' => (∃ x : Int, v' = .int .i64 x) ∧ Cu B H' q s (m + 4) ∧ Chg q H H' := by
 refine A2i.go rfl ?_; unfold W2; refine A0 ?_; simp only [sS]; refine A0 ?_; have f1 : C9 [.int .i64 0, .int .i64 0, .int .i64 0] [(0, 1, .int .i64 (-1)), (1, 1, .int .i64 3), (2, 1, .int .i64 4611686018427387904)] = some (([-1, 3, 4611686018427387904] : List Int).map vi) := by simp [C9, C2, F8]
 simp only [sS, I0 f1]; refine (F0 lim q m B s l [-1, 3, 4611686018427387904] H hl hs hc (by omega) (by decide) (by decide)).mono ?_; rintro _ H1 ⟨⟨x, _, rfl⟩, hc1, hch1⟩; have f2 : C9 [.int .i64 0, .int .i64 0, .int .i64 0, .int .i64 0, .int .i64 0, .int .i64 0] [(0, 1, .int .i64 0), (1, 1, .int .i64 0), (2, 1, .int .i64 1), (3, 1, .int .i64 1), (4, 1, .int .i64 2), (5, 1, .int .i64 x)] = some (([0, 0, 1, 1, 2, x] : List Int).map vi) := by simp [C9, C2, F8]
 simp only [sS, I0 f2]; refine (F0 lim q (m + 2) B s l [0, 0, 1, 1, 2, x] H1 hl hs hc1 (by omega) (by simp) (by simp)).mono ?_; rintro _ H2 ⟨⟨y, _, rfl⟩, hc2, hch2⟩; simp only [sS]; refine A3 ?_; simp +decide only [sQ]; exact ⟨⟨y, rfl⟩, hc2, hch1.trans hch2⟩
end Go.Proofs.YtmdeppkfboaepaaGreat
namespace Go.Ab
theorem Chg.above {q b : Nat} {H H1 H2 : A1} (h : Chg q H H1) (k : Chg b H1 H2) (hb : H.next ≤ b) : Chg q H H2 :=
 ⟨Nat.le_trans h.next k.next, fun b' h1 hn => (k.blk b' (Nat.lt_of_lt_of_le h1 h.next) (by omega)).trans (h.blk b' h1 hn)⟩
theorem Chg.more {q : Nat} {H H1 H2 : A1} (h : Chg q H H1) (k : Ext H1 H2) : Chg q H H2 := h.trans (Chg.of_ext k)
theorem Chg.kept {q b : Nat} {H H1 : A1} {cs : Option (List Value)} (h : Chg q H H1) (hb : H.blk b = cs) (hlt : b < H.next) (hn : b ≠ q) : H1.blk b = cs := by rw [h.blk b hlt hn]; exact hb
end Go.Ab
namespace Go.Proofs.YtmdeppkfboaepaaGreat
open Go.Ab Ints
def SmT (t : Tm) : Prop := (-1000 ≤ t.c ∧ t.c ≤ 1000) ∧ (0 ≤ t.x ∧ t.x ≤ 4) ∧ (0 ≤ t.y ∧ t.y ≤ 4) ∧ (0 ≤ t.z ∧ t.z ≤ 4)
theorem SmT.wi {t : Tm} (h : SmT t) (k : Int) {e : Int} (he : 0 ≤ e ∧ e ≤ 4) : SmT (wi t k e) := by
 unfold SmT Go.Proofs.YtmdeppkfboaepaaGreat.wi at *
 split
 ·simp only; omega
 ·split <;> simp only <;> omega
theorem SmT.exB {t : Tm} (h : SmT t) : exB t := by unfold SmT at h; unfold Go.Proofs.YtmdeppkfboaepaaGreat.exB; omega
abbrev z4 : List Value := [.int .i64 0, .int .i64 0, .int .i64 0, .int .i64 0]
theorem D1a (lim q m : Nat) (B : A1) (s : Value) (l : List Int) (n : Nat) (H : A1) (hl : lim ≤ B.next) (hs : SlB B s l) (hc : Cu B H q s m) (hm : m ≤ 2900000000000000000) (hn : n ≤ 4) :
 A5 Tryz.prog lim A91 [Ptr q, .int .i64 n] H fun v H' => (∃ t, v = tv t ∧ SmT t) ∧ Cu B H' q s (m + 24) ∧ Chg q H H' := by
 have hqH := hc.lt; have hBq := hc.ge; refine A9c.go rfl ?_; unfold A1y; refine A0 ?_; simp only [sS]; have hx := Ext.alloc H z4; have hr2 : (H.alloc z4).blk H.next = some z4 := A6 _ _; have hn1 : (H.alloc z4).next = H.next + 1 := rfl; generalize H.alloc z4 = H1 at hx hr2 hn1 ⊢; have hc1 := hc.of_ext hx; refine A0 ?_; simp only [sS]; refine (J3 lim q m B s l 41 H1 hl hs hc1 (by omega) (by omega)).mono ?_; rintro _ H2 ⟨⟨x, rfl, hx0, hx1⟩, hc2, hch2⟩; have w1 : IntKind.i64.wrap (x - 20) = x - 20 := E3 (by omega) (by omega); have f2 : C9 [.int .i64 0, .int .i64 0, .int .i64 0, .int .i64 0, .int .i64 0, .int .i64 0] [(0, 1, .int .i64 1), (1, 1, .int .i64 (-1)), (2, 1, .int .i64 2), (3, 1, .int .i64 (-3)), (4, 1, .int .i64 4), (5, 1, .int .i64 (x - 20))] = some (([1, -1, 2, -3, 4, x - 20] : List Int).map vi) := by simp [C9, C2, F8]
 simp only [sS, w1, I0 f2]; refine (F0 lim q (m + 2) B s l [1, -1, 2, -3, 4, x - 20] H2 hl hs hc2 (by omega) (by simp) (by simp)).mono ?_; rintro _ H3 ⟨⟨c, hcm, rfl⟩, hc3, hch3⟩; have hcb : -1000 ≤ c ∧ c ≤ 1000 := by
  simp at hcm; omega
 have hn2 := hch2.next; have hn3 := hch3.next; have hf : C9 z4 [(0, 1, .int .i64 c)] = some (tc ⟨c, 0, 0, 0⟩) := by simp [C9, C2, tc]
 have hst : C8 lim (H3.alloc z4) 4 (.pointer (some ⟨H3.next, 0, none⟩)) (.agg (tc ⟨c, 0, 0, 0⟩).toArray) = some (undef, H3.alloc (tc ⟨c, 0, 0, 0⟩)) := K8 (t := ⟨c, 0, 0, 0⟩) (by omega); simp only [sS, hf, hst]; have hr3 : (H3.alloc (tc ⟨c, 0, 0, 0⟩)).blk H3.next = some (tc ⟨c, 0, 0, 0⟩) := A6 _ _; have hx4 := Ext.alloc H3 (tc ⟨c, 0, 0, 0⟩); have hn4 : (H3.alloc (tc ⟨c, 0, 0, 0⟩)).next = H3.next + 1 := rfl; generalize H3.alloc (tc ⟨c, 0, 0, 0⟩) = H4 at hr3 hx4 hn4 ⊢; have hc4 := hc3.of_ext hx4; have hch4 : Chg q H H4 := (Chg.of_ext hx).trans (hch2.trans (hch3.more hx4)); have hr24 : H4.blk H.next = some z4 := (hch2.trans (hch3.more hx4)).kept hr2 (by omega) (by omega); generalize hr3e : H3.next = r3 at *
 generalize hr2e : H.next = r2 at *
 have h23 : r2 < r3 := by omega
 refine A0 ?_; simp only [sS]; refine C7 (A0 ?_); simp only [sS]; refine A7 ?_; refine B9 (fun j e' H' => ∃ (k : Nat) (t : Tm) (left : Int) (x6 : Value), k + j = n ∧ SmT t ∧ (0 ≤ left ∧ left ≤ 4) ∧ H'.blk r3 = some (tc t) ∧ H'.blk r2 = some z4 ∧ r3 < H'.next ∧ Cu B H' q s (m + 4 + 4 * k) ∧ Chg q H H' ∧ e' = [Ptr q, .int .i64 n, Ptr r2, Ptr r3, .int .i64 left, .int .i64 k, x6]) n ⟨0, _, 4, _, by omega, (by unfold SmT; simp only; omega), by omega, hr3, hr24, by omega, hc4, hch4, rfl⟩ ?_; clear hr3 hr24 hc4 hch4 hr2 hn2 hch2 hcb hcm hch3 hst hf f2 w1 hx0 hx1; rintro j e' H' ⟨k, t, left, x6, hkj, hT, hlf, hb3, hb2, hlt3, hcu, hch, rfl⟩; refine A9 ?_; simp only [sS]; refine C4.split (fun hlt => ?_) (fun hlt => ?_)
 ·have hlt' : k < n := by have := of_decide_eq_true hlt; omega
  have wl : IntKind.i64.wrap (left + 1) = left + 1 := E3 (by omega) (by omega); refine A2 ?_; simp +decide only [sQ]; refine A7 ?_; refine A0 ?_; simp only [sS, wl]; refine (J3 lim q (m + 4 + 4 * k) B s l (left + 1) H' hl hs hcu (by omega) (by omega)).mono ?_; rintro _ G1 ⟨⟨y, rfl, hy0, hy1⟩, gc1, gch1⟩; have g2 : C9 [.int .i64 0, .int .i64 0, .int .i64 0, .int .i64 0, .int .i64 0, .int .i64 0] [(0, 1, .int .i64 0), (1, 1, .int .i64 0), (2, 1, .int .i64 1), (3, 1, .int .i64 1), (4, 1, .int .i64 2), (5, 1, .int .i64 y)] = some (([0, 0, 1, 1, 2, y] : List Int).map vi) := by simp [C9, C2, F8]
  simp only [sS, I0 g2]; refine (F0 lim q (m + 4 + 4 * k + 2) B s l [0, 0, 1, 1, 2, y] G1 hl hs gc1 (by omega) (by simp) (by simp)).mono ?_; rintro _ G2 ⟨⟨e, hem, rfl⟩, gc2, gch2⟩; have he0 : 0 ≤ e := by
   simp at hem; omega
  simp only [sS]; have gch := gch1.trans gch2; have gn := gch.next; have gb3 := gch.kept hb3 hlt3 (by omega); have hn0 := hch.next; have gb2 := gch.kept hb2 (by omega) (by omega); refine N9 (fun e' H'' => H'' = G2 ∧ ∃ f : Int, 0 ≤ f ∧ f ≤ left ∧ e' = [Ptr q, .int .i64 n, Ptr r2, Ptr r3, .int .i64 left, .int .i64 k, .int .i64 f]) ?_ ?_
  ·refine D0 (decide (e > left)) ?_ (fun hg => ?_) (fun hg => ?_)
   ·simp only [sS]; simp
   ·refine A4 ?_; simp only [sS]; simp +decide only [sQ]; exact ⟨trivial, left, hlf.1, Int.le_refl _, rfl⟩
   ·have := of_decide_eq_false hg; refine A2 ?_; simp +decide only [sQ]; exact ⟨trivial, e, he0, by omega, rfl⟩
  rintro e' G3 ⟨rfl, f, hf0, hf1, rfl⟩; refine A0 ?_; have l4 : D5 G3 4 (Ptr r3) = some (tv t) := C0l gb3; simp only [sS, l4]; refine (B2p lim t k f G3 (by omega)).mono ?_; rintro _ G4 ⟨rfl, gx4⟩; have gb4 : G4.blk r3 = some (tc t) := by rw [gx4.blk _ (by omega)]; exact gb3
  have gb42 : G4.blk r2 = some z4 := by rw [gx4.blk _ (by omega)]; exact gb2
  have gst : C8 lim G4 4 (Ptr r3) (tv (wi t k f)) = some (undef, G4.put r3 (tc (wi t k f))) := by unfold tv; exact C1n (by omega) gb4
  have gnx := gx4.next; simp only [sS, gst]; have wl2 : IntKind.i64.wrap (left - f) = left - f := E3 (by omega) (by omega); have hput : (G4.put r3 (tc (wi t k f))).next = G4.next := rfl; refine A4 ?_; simp only [sS, wl2]; simp +decide only [sQ]; refine A4 ?_; simp only [sS, D6 (i := k) (by omega)]; simp +decide only [sQ]; refine C6.mk (j - 1) (by omega) ⟨k + 1, wi t k f, left - f, _, by omega, hT.wi k (by omega), by omega, D3 _ _ _, ?_, by omega, ?_, ?_, rfl⟩
  ·rw [K5 G4 _ (by omega)]; exact gb42
  ·refine Cu.le (((gc2.of_ext gx4)).chg (Chg.put r3 G4 _) (by omega) (by omega)) (by omega)
  ·exact Chg.above ((hch.trans gch).more gx4) (Chg.put r3 G4 _) (by omega)
 refine B8 ?_; simp +decide only [sQ, reduceIte]; have hn0 := hch.next; have hkn : k = n := by have := of_decide_eq_false hlt; omega
 subst hkn; refine N9 (fun e' H'' => ∃ t : Tm, SmT t ∧ H''.blk r3 = some (tc t) ∧ H''.blk r2 = some z4 ∧ r3 < H''.next ∧ Cu B H'' q s (m + 24) ∧ Chg q H H'' ∧ e' = [Ptr q, .int .i64 k, Ptr r2, Ptr r3, .int .i64 left, .int .i64 k, x6]) ?_ ?_
 ·refine E1 ?_; simp only [sS]; refine (A30 lim q (m + 4 + 4 * k) B s l 24 H' hl hs hcu (by omega) (by omega)).mono ?_; rintro _ G1 ⟨⟨bb, rfl⟩, gc1, gch1⟩; have gn1 := gch1.next; have gb3 := gch1.kept hb3 hlt3 (by omega); have gb2 := gch1.kept hb2 (by omega) (by omega); simp only [sS]; refine C4.split (fun hg => ?_) (fun hg => ?_)
  ·have g2 : C9 [.int .i64 0, .int .i64 0] [(0, 1, .int .i64 1000), (1, 1, .int .i64 (-1000))] = some (([1000, -1000] : List Int).map vi) := by simp [C9, C2, F8]
   refine A4 ?_; simp only [sS, I0 g2]; refine (F0 lim q (m + 4 + 4 * k + 2) B s l [1000, -1000] G1 hl hs gc1 (by omega) (by simp) (by simp)).mono ?_; rintro _ G2 ⟨⟨e, hem, rfl⟩, gc2, gch2⟩; have gn2 := gch2.next; have gb3' := gch2.kept gb3 (by omega) (by omega); have gb2' := gch2.kept gb2 (by omega) (by omega); have gst : C8 lim G2 1 (Ptr r3) (.int .i64 e) = some (undef, G2.put r3 (tc { t with c := e })) := by
    simp [C8, gb3', C2, F8, tc]; omega
   simp only [sS, Nat.add_zero, gst]; simp +decide only [sQ]; refine ⟨{ t with c := e }, ?_, D3 _ _ _, ?_, ?_, ?_, ?_, by first | trivial | rfl⟩
   ·unfold SmT at hT ⊢; simp at hem; simp only; omega
   ·rw [K5 G2 _ (by omega)]; exact gb2'
   ·show r3 < G2.next; omega
   ·exact Cu.le (gc2.chg (Chg.put r3 G2 _) (by omega) (by omega)) (by omega)
   ·exact Chg.above (hch.trans (gch1.trans gch2)) (Chg.put r3 G2 _) (by omega)
  ·refine A2 ?_; simp +decide only [sQ]; exact ⟨t, hT, gb3, gb2, by omega, gc1.le (by omega), hch.trans gch1, by first | trivial | rfl⟩
 rintro e' G ⟨t', hT', gb3, gb2, glt, gc, gch, rfl⟩; have l4 : D5 G 4 (Ptr r3) = some (tv t') := C0l gb3; have gst : C8 lim G 4 (Ptr r2) (tv t') = some (undef, G.put r2 (tc t')) := by unfold tv; exact C1n (by omega) gb2
 refine A0 ?_; simp only [sS, l4, gst]; refine A3 ?_; simp +decide only [sQ]; have l5 : D5 (G.put r2 (tc t')) 4 (Ptr r2) = some (tv t') := C0l (D3 _ _ _); simp only [sQ, l5]; exact ⟨⟨t', rfl, hT'⟩, gc.chg (Chg.put r2 G _) (by omega) (by omega), Chg.above gch (Chg.put r2 G _) (by omega)⟩
end Go.Proofs.YtmdeppkfboaepaaGreat
namespace Go.Proofs.YtmdeppkfboaepaaGreat
open Go.Ab Ints
theorem C30 {t : Tm} {l : List Tm} (ht : exB t) (hl : ∀ x ∈ l, exB x) : ∀ x ∈ A58 t l, exB x := by
 intro x hx; rcases C4b hx with h | h
 ·exact hl x h
 ·rw [A67] at h; unfold exB at ht ⊢; omega
theorem C9z (lim : Nat) (s : Value) (p : List Tm) (H : A1) (hl : lim ≤ H.next) (hs : SlT H s p) (hn : p.length ≤ 1000) (hok : ∀ t ∈ p, exB t) :
 A5 Tryz.prog lim C10 [s] H fun v H' => (∃ x ok, v = .tuple #[x, .bool ok] ∧ (ok = true → ∃ r b, H.next ≤ b ∧ b ≤ H'.next ∧ G8 H' b x r ∧ I1 r = true)) ∧ Ext H H' := by
 refine B83.go rfl ?_; unfold B1f; refine A0 ?_; simp only [sS]; refine A0 ?_; simp only [sS]; refine C7 (A0 ?_); simp only [sS, hs.lenV]; refine A7 ?_; refine B9 (fun j e' H' => ∃ (i b : Nat) (v x4 : Value) (acc : List Tm), i + j = p.length ∧ acc.length ≤ i ∧ (∀ t ∈ acc, exB t) ∧ G8 H' b v acc ∧ H.next ≤ b ∧ b ≤ H'.next ∧ Ext H H' ∧ e' = [s, .slice none 0 0, .bool false, v, x4, s, .int .i64 p.length, .int .i64 i]) p.length ⟨0, H.next, _, _, [], by omega, Nat.le_refl _, by simp, Vec.nil _ _ _, Nat.le_refl _, Nat.le_refl _, Ext.refl _, rfl⟩ ?_; rintro j e' H' ⟨i, b, v, x4, acc, hij, hacc, hex, hv, hb1, hb2, hx, rfl⟩; have hnx := hx.next; refine A9 ?_; simp only [sS]; refine C4.split (fun hlt => ?_) (fun hlt => ?_)
 ·have hlt' : i < p.length := by simpa using hlt
  obtain ⟨b1, o1, h1, hat⟩ := (hs.ext hx).at hlt'; have hoki := hok _ (List.getElem_mem hlt'); generalize p[i] = t at hat hoki; refine A2 ?_; simp +decide only [sQ]; refine A7 ?_; refine A0 ?_; simp only [sS, h1, hat.all, K8 (lim := lim) (H := H') (by omega)]; have hB := J8.mk' H' t; generalize hH1 : H'.alloc (tc t) = H1 at hB ⊢; generalize hq : H'.next = q at hB hnx hb2 ⊢; have hx1 := hx.trans hB.ext; have hnx1 := hB.ext.next; have hvx := G8.ext hv hB.ext; refine A4 ?_; simp only [sS, hB.all]; refine (C1l lim v acc t H1 (by omega) hvx.sl (by omega) hex hoki).mono ?_; rintro v' H2 ⟨b', g1, g2, g3, gx⟩; simp only [sS]; simp +decide only [sQ]; refine A4 ?_; simp only [sS, D6 (i := i) (by omega)]; simp +decide only [sQ]; have hpl := A18 t acc; exact C6.mk (j - 1) (by omega) ⟨i + 1, b', v', _, A58 t acc, by omega, by omega, C30 hoki hex, g3, by omega, g2, hx1.trans gx, rfl⟩
 refine B8 ?_; simp +decide only [sQ, reduceIte]; have hi : i = p.length := by simp at hlt; omega
 refine J1 (!I1 acc) (Ext H') ?_ (fun H2 hx2 hg => ?_) (fun H2 hx2 hg => ?_)
 ·simp only [sS]; refine (A6x lim v acc H' (by omega) hv.sl (by omega)).mono ?_; rintro _ H2 ⟨rfl, hx2⟩; simp only [sS]; exact ⟨trivial, trivial, hx2⟩
 ·refine A0 ?_; simp only [sS]; refine A3 ?_; simp +decide only [sQ]; exact ⟨⟨_, _, rfl, fun h => by cases h⟩, hx.trans hx2⟩
 ·refine A2 ?_; simp +decide only [sQ]; refine A0 ?_; simp only [sS]; refine A3 ?_; simp +decide only [sQ]; have hn2 := hx2.next; exact ⟨⟨_, _, rfl, fun _ => ⟨acc, b, hb1, by omega, G8.ext hv hx2, (Bool.not_eq_false' _).mp hg⟩⟩, hx.trans hx2⟩
theorem C8w (lim : Nat) (s u : Value) (p w : List Tm) (H : A1) (hl : lim ≤ H.next) (hs : SlT H s p) (hu : SlT H u w) (hn : p.length + w.length ≤ 1000) (hok : ∀ t ∈ p, exB t) (hok2 : ∀ t ∈ w, exB t) :
 A5 Tryz.prog lim C1a [s, u] H fun v H' => (∃ x ok, v = .tuple #[x, .bool ok] ∧ (ok = true → ∃ r b, H.next ≤ b ∧ b ≤ H'.next ∧ G8 H' b x r ∧ I1 r = true)) ∧ Ext H H' := by
 refine B8n.go rfl ?_; unfold B0b; refine A0 ?_; simp only [sS]; obtain ⟨v1, H1, b1, g1, g2, g3, g4, gx⟩ := B3i (lim := lim) hl hs (by omega); obtain ⟨v2, H2, b2, k1, k2, k3, k4, k5⟩ := Vec.append (lim := lim) g2 (by omega) (hu.ext gx) (by decide) (bytes := 32) (by omega); have hx2 : Ext H H2 := Chg.ext gx k4 g3; have hn2 := hx2.next; refine A0 ?_; simp only [sS, B44, g1, k1]; have k2' : SlT H2 v2 (p ++ w) := by
  have := Vec.sl k2; show Sl H2 v2 (p ++ w).length 4 (tcs (p ++ w)); rw [List.length_append, A0u]; exact this
 refine (C9z lim v2 (p ++ w) H2 (by omega) k2' (by simpa using hn) (fun t ht => (List.mem_append.1 ht).elim (hok t) (hok2 t))).mono ?_; rintro _ H3 ⟨⟨x, ok, rfl, hr⟩, hx3⟩; simp only [sS]; refine A3 ?_; simp +decide only [sQ]; refine ⟨⟨x, ok, rfl, fun h => ?_⟩, hx2.trans hx3⟩; obtain ⟨r, b, r1, r2, r3, r4⟩ := hr h; exact ⟨r, b, by omega, r2, r3, r4⟩
theorem A60 {p : List Tm} (h : I1 p = true) : p.length ≤ 20 ∧ ∀ t ∈ p, Z6 t = true := by
 simp only [I1, Bool.and_eq_true, decide_eq_true_eq] at h; exact ⟨by omega, fun t ht => ((C0k h.1).1 t ht).1⟩
theorem C1r (H : A1) (t : Tm) : E0 H 1 z4 [(0, 4, tv t)] = some (.slice (some ⟨H.next, 0, some 0⟩) 1 1, H.alloc (tc t)) := by
 simp [E0, C9, C2, tv, tc]
theorem A9u (lim q m : Nat) (B : A1) (s : Value) (l : List Int) (n : Nat) (H : A1) (hl : lim ≤ B.next) (hs : SlB B s l) (hc : Cu B H q s m) (hm : m ≤ 2800000000000000000) (hn : n ≤ 4) :
 A5 Tryz.prog lim A99 [Ptr q, .int .i64 n] H fun v H' => (∃ p b, H.next ≤ b ∧ b ≤ H'.next ∧ G8 H' b v p ∧ I1 p = true) ∧ Cu B H' q s (m + 600) ∧ Chg q H H' := by
 have hqH := hc.lt; have hBq := hc.ge; refine A82.go rfl ?_; unfold A10; refine A0 ?_; simp only [sS]; refine A0 ?_; simp only [sS]; refine A0 ?_; simp only [sS]; refine (J3 lim q m B s l 4 H hl hs hc (by omega) (by omega)).mono ?_; rintro _ H1 ⟨⟨x, rfl, hx0, hx1⟩, hc1, hch1⟩; have w1 : IntKind.i64.wrap (1 + x) = ((1 + x.toNat : Nat) : Int) := by
  rw [show 1 + x = ((1 + x.toNat : Nat) : Int) by omega]; exact J0 (by omega)
 simp only [sS, w1]; refine N9 (fun e' H' => ∃ k : Nat, k ≤ 24 ∧ Cu B H' q s (m + 4) ∧ Chg q H H' ∧ e' = [Ptr q, .int .i64 n, .slice none 0 0, .slice none 0 0, .int .i64 k, undef, undef, undef]) ?_ ?_
 ·refine E1 ?_; simp only [sS]; refine (A30 lim q (m + 2) B s l 20 H1 hl hs hc1 (by omega) (by omega)).mono ?_; rintro _ G1 ⟨⟨bb, rfl⟩, gc1, gch1⟩; simp only [sS]; refine C4.split (fun hg => ?_) (fun hg => ?_)
  ·refine A4 ?_; simp only [sS]; simp +decide only [sQ]; exact ⟨24, by omega, gc1, hch1.trans gch1, rfl⟩
  ·refine A2 ?_; simp +decide only [sQ]; exact ⟨1 + x.toNat, by omega, gc1, hch1.trans gch1, rfl⟩
 clear hc1 hch1; rintro e' H1 ⟨many, hmany, hc1, hch1, rfl⟩; refine C7 (A0 ?_); simp only [sS]; refine A7 ?_; refine B9 (fun j e' H' => ∃ (i b : Nat) (v x6 x7 : Value) (p : List Tm), i + j = many ∧ I1 p = true ∧ G8 H' b v p ∧ H.next ≤ b ∧ b ≤ H'.next ∧ Cu B H' q s (m + 4 + 24 * i) ∧ Chg q H H' ∧ e' = [Ptr q, .int .i64 n, .slice none 0 0, v, .int .i64 many, .int .i64 i, x6, x7]) many ⟨0, H.next, _, _, _, [], by omega, rfl, Vec.nil _ _ _, Nat.le_refl _, hch1.next, hc1, hch1, rfl⟩ ?_; rintro j e' H' ⟨i, b, v, x6, x7, p, hij, hgp, hv, hb1, hb2, hcu, hch, rfl⟩; have hnx := hch.next; refine A9 ?_; simp only [sS]; refine C4.split (fun hlt => ?_) (fun hlt => ?_)
 ·have hlt' : i < many := by have := of_decide_eq_true hlt; omega
  obtain ⟨p20, pok⟩ := A60 hgp; refine A2 ?_; simp +decide only [sQ]; refine A7 ?_; refine A0 ?_; simp only [sS]; refine (D1a lim q (m + 4 + 24 * i) B s l n H' hl hs hcu (by omega) hn).mono ?_; rintro _ G1 ⟨⟨t, rfl, hT⟩, gc1, gch1⟩; have gn1 := gch1.next; have hv1 : G8 G1 b v p := Vec.chg hv gch1 (by omega); simp only [sS, C1r]; have hvt : G8 (G1.alloc (tc t)) G1.next (.slice (some ⟨G1.next, 0, some 0⟩) 1 1) [t] := Vec.lit (by simp [tc]); have gx2 := Ext.alloc G1 (tc t); have gnn : (G1.alloc (tc t)).next = G1.next + 1 := rfl; have hcg1 := gc1.lt; generalize G1.alloc (tc t) = G2 at hvt gx2 gnn ⊢; refine (C8w lim v _ p [t] G2 (by omega) (G8.ext hv1 gx2).sl hvt.sl (by simp; omega) (fun y hy => D21 (pok y hy)) (by intro y hy; simp at hy; subst hy; exact hT.exB)).mono ?_; rintro _ G3 ⟨⟨y, ok, rfl, hr⟩, gx3⟩; have gn3 := gx3.next; simp only [sS]; have gx13 := gx2.trans gx3; have gc3 := gc1.of_ext gx13; have gch3 := (hch.trans gch1).more gx13; refine E1 ?_; simp only [sS]; refine C4.split (fun hg => ?_) (fun hg => ?_)
  ·obtain ⟨r, b', r1, r2, r3, r4⟩ := hr hg; refine A4 ?_; simp only [sS]; simp +decide only [sQ]; refine A4 ?_; simp only [sS, D6 (i := i) (by omega)]; simp +decide only [sQ]; exact C6.mk (j - 1) (by omega) ⟨i + 1, b', y, _, _, r, by omega, r4, r3, by omega, r2, gc3.le (by omega), gch3, rfl⟩
  ·refine A2 ?_; simp +decide only [sQ]; refine A4 ?_; simp only [sS, D6 (i := i) (by omega)]; simp +decide only [sQ]; exact C6.mk (j - 1) (by omega) ⟨i + 1, b, v, _, _, p, by omega, hgp, G8.ext hv1 gx13, hb1, by omega, gc3.le (by omega), gch3, rfl⟩
 refine B8 ?_; simp +decide only [sQ, reduceIte]; have hi : i = many := by have := of_decide_eq_false hlt; omega
 refine A9 ?_; simp only [sS]; refine (A30 lim q (m + 4 + 24 * i) B s l 24 H' hl hs hcu (by omega) (by omega)).mono ?_; rintro _ G1 ⟨⟨bb, rfl⟩, gc1, gch1⟩; have gn1 := gch1.next; simp only [sS]; refine C4.split (fun hg => ?_) (fun hg => ?_)
 ·refine A0 ?_; simp only [sS]; refine A3 ?_; simp +decide only [sQ]; exact ⟨⟨[], H.next, Nat.le_refl _, by omega, Vec.nil _ _ _, rfl⟩, gc1.le (by omega), hch.trans gch1⟩
 ·refine A2 ?_; simp +decide only [sQ]; refine A0 ?_; simp only [sS]; refine A3 ?_; simp +decide only [sQ]; exact ⟨⟨p, b, hb1, by omega, Vec.chg hv gch1 (by omega), hgp⟩, gc1.le (by omega), hch.trans gch1⟩
end Go.Proofs.YtmdeppkfboaepaaGreat
namespace Go.Proofs.YtmdeppkfboaepaaGreat
open Go.Ab Ints
theorem A4l.pushQ {lim q : Nat} {H H2 : A1} {lo b c : Nat} {vs : List Value} {bs : List Nat} {v s : Value} {ss : List (List Tm)} {p : List Tm} (h : A4l H lo b vs bs v ss) (hlim : lim ≤ lo) (hq : q < lo) (hloH : lo ≤ H.next) (hx : Chg q H H2)
 (hc1 : H.next ≤ c) (hc2 : c ≤ H2.next) (hp : G8 H2 c s p) (hn : ss.length ≤ 1000000) :
 ∃ v' H3 b' b0, E4 lim (H2.alloc [s]) 1 24 v (.slice (some ⟨H2.next, 0, some 0⟩) 1 1) = some (v', H3) ∧ A4l H3 lo b' (vs ++ [s]) (bs ++ [c]) v' (ss ++ [p]) ∧ lo ≤ b0 ∧ Chg b0 H2 H3 := by
 obtain ⟨h1, h2, hnil, h3, h4, h5, h6, h7, h8⟩ := h; have hnx := hx.next; have hclen := h1.clen; obtain ⟨b0, hv0, hb0, hbc, hbn, hbl⟩ : ∃ b0, Vec H2 b0 v ss.length 1 vs ∧ lo ≤ b0 ∧ b0 ≠ c ∧ b0 ∉ bs ∧ (b0 < H.next ∨ H2.next < b0) := by
  by_cases hs : ss = []
  ·subst hs; have hv := hnil rfl; subst hv; have hvs : vs = [] := List.length_eq_zero_iff.1 (by simpa using hclen); subst hvs; refine ⟨H2.next + 1, Vec.nil _ _ _, by omega, by omega, fun hm => ?_, .inr (by omega)⟩; have := h7 _ hm; omega
  ·have := h4 hs; exact ⟨b, h1.chg hx (by omega), h3, by omega, h6, .inl this⟩
 obtain ⟨v', H3, b', g1, g2, g3, g4, g5, g6⟩ := n5 hv0 (lim := lim) s (by omega) (bytes := 24) (by omega); have hbl' : b' = b0 ∨ H2.next < b' := g3; refine ⟨v', H3, b', b0, g1, ⟨by rw [List.length_append]; exact g2, by simp [h2], by simp, by omega, fun _ => g4, ?_, ?_, ?_, ?_⟩, hb0, g5⟩
 ·refine List.nodup_append.2 ⟨h5, by simp, ?_⟩; intro x hx' y hy; simp at hy; subst hy; have := h7 x hx'; omega
 ·intro hm; rcases List.mem_append.1 hm with hm | hm
  ·rcases hbl' with rfl | hbl'
   ·exact hbn hm
   ·have := h7 _ hm; omega
  ·simp at hm; omega
 ·intro c' hc'; rcases List.mem_append.1 hc' with hm | hm
  ·have := h7 _ hm; omega
  ·simp at hm; omega
 ·intro j r hq'; by_cases hj : j < ss.length
  ·rw [List.getElem?_append_left hj] at hq'; obtain ⟨s', c', q1, q2, q3⟩ := h8 j r hq'; have hm := List.mem_of_getElem? q2; have hlo := (h7 c' hm).1; refine ⟨s', c', by rw [List.getElem?_append_left (by omega)]; exact q1, by rw [List.getElem?_append_left (by omega)]; exact q2, G8.chg (G8.chg q3 hx (by omega)) g5 (fun e => hbn (e ▸ hm))⟩
  ·rw [List.getElem?_append_right (by omega)] at hq'; have hji : j = ss.length := by
    have := (List.getElem?_eq_some_iff.1 hq').1; simp at this; omega
   subst hji; simp at hq'; subst hq'; exact ⟨s, c, by rw [List.getElem?_append_right (by omega)]; simp [hclen], by rw [List.getElem?_append_right (by omega)]; simp [h2], G8.chg hp g5 (fun e => hbc e.symm)⟩
def SmS (ss : List (List Tm)) : Prop := ss.length ≤ 1000 ∧ ∀ p ∈ ss, p.length ≤ 1000
theorem C6c {H : A1} {v : Value} (z : Value) (hv : C2 v = some [v]) : E0 H 1 [z] [(0, 1, v)] = some (.slice (some ⟨H.next, 0, some 0⟩) 1 1, H.alloc [v]) := L7 H z hv
theorem C0m (lim q m : Nat) (B : A1) (s : Value) (l : List Int) (n : Nat) (H : A1) (hl : lim ≤ B.next) (hs : SlB B s l) (hc : Cu B H q s m) (hm : m ≤ 2700000000000000000) (hn : n ≤ 4) :
 A5 Tryz.prog lim A7n [Ptr q, .int .i64 n] H fun v H' => (∃ b vs bs ss, A4l H' H.next b vs bs v ss ∧ ss.length = n ∧ SmS ss) ∧ Cu B H' q s (m + 2400) ∧ Chg q H H' := by
 have hqH := hc.lt; have hBq := hc.ge; refine A5v.go rfl ?_; unfold A0h; refine A0 ?_; simp only [sS]; refine A0 ?_; simp only [sS]; refine A7 ?_; refine B9 (fun j e' H' => ∃ (b : Nat) (vs : List Value) (bs : List Nat) (v : Value) (ss : List (List Tm)), ss.length + j = n ∧ SmS ss ∧ A4l H' H.next b vs bs v ss ∧ Cu B H' q s (m + 600 * ss.length) ∧ Chg q H H' ∧ e' = [Ptr q, .int .i64 n, .slice none 0 0, v]) n ⟨H.next, [], [], _, [], by simp, ⟨by simp, by simp⟩, A4l.nil' _, hc, Chg.refl _ _, rfl⟩ ?_; rintro j e' H' ⟨b, vs, bs, v, ss, hj, hsm, hG, hcu, hch, rfl⟩; have hnx := hch.next; have hlen : O6 v = some (.int .i64 ss.length) := hG.vec.lenV; refine A9 ?_; simp only [sS, hlen]; refine C4.split (fun hlt => ?_) (fun hlt => ?_)
 ·have hlt' : ss.length < n := by have := of_decide_eq_true hlt; omega
  refine A2 ?_; simp +decide only [sQ]; refine A8 ?_; refine A4 ?_; simp only [sS]; refine (A9u lim q (m + 600 * ss.length) B s l n H' hl hs hcu (by omega) hn).mono ?_; rintro v1 H2 ⟨⟨p, c, p1, p2, p3, p4⟩, hc2, hch2⟩; obtain ⟨p20, _⟩ := A60 p4; obtain ⟨v', H3, b', b0, g1, g2, g3, g4⟩ := hG.pushQ (lim := lim) (q := q) (by omega) (by omega) hnx hch2 p1 p2 p3 (by have := hsm.1; omega); simp only [sS, C6c _ (Vec.cellsV p3), g1]; simp +decide only [sQ]; refine C6.mk (j - 1) (by omega) ⟨b', _, _, v', ss ++ [p], by simp; omega, ⟨by have := hsm.1; simp; omega, ?_⟩, g2, ?_, Chg.above (hch.trans hch2) g4 g3, rfl⟩
  ·intro y hy; rcases List.mem_append.1 hy with hy | hy
   ·exact hsm.2 y hy
   ·simp at hy; subst hy; omega
  ·refine Cu.le (hc2.chg g4 (by omega) (by omega)) ?_; simp; omega
 refine B8 ?_; simp +decide only [sQ, reduceIte]; have hi : ss.length = n := by have := of_decide_eq_false hlt; omega
 refine A0 ?_; simp only [sS]; refine A3 ?_; simp +decide only [sQ]; exact ⟨⟨b, vs, bs, ss, hG, hi, hsm⟩, hcu.le (by omega), hch⟩
end Go.Proofs.YtmdeppkfboaepaaGreat
namespace Go.Proofs.YtmdeppkfboaepaaGreat
open Go.Ab Ints
structure CuX (B H : A1) (q : Nat) (s : Value) (a : Nat) (z : Int) : Prop where
 ext : Ext B H
 ge : B.next ≤ q
 lt : q < H.next
 blk : H.blk q = some [s, .int .i64 a, .int .u64 z]
theorem CuX.cu {B H : A1} {q a m : Nat} {s : Value} {z : Int} (h : CuX B H q s a z) (hm : a ≤ m) : Cu B H q s m := ⟨h.ext, h.ge, h.lt, a, z, h.blk, hm⟩
theorem Cu.cux {B H : A1} {q m : Nat} {s : Value} (h : Cu B H q s m) : ∃ a z, a ≤ m ∧ CuX B H q s a z := by
 obtain ⟨h1, h2, h3, a, z, h4, h5⟩ := h; exact ⟨a, z, h5, h1, h2, h3, h4⟩
theorem CuX.chg {B H H' : A1} {q a b : Nat} {s : Value} {z : Int} (h : CuX B H q s a z) (hc : Chg b H H') (hb : B.next ≤ b) (hne : q ≠ b) : CuX B H' q s a z :=
 ⟨Chg.ext h.ext hc hb, h.ge, Nat.lt_of_lt_of_le h.lt hc.next, by rw [hc.blk _ h.lt hne]; exact h.blk⟩
theorem D16 (y : Int) (h0 : 0 ≤ y) (h1 : y < 18446744073709551616) : IntKind.i64.wrap (IntKind.u64.wrap ((BitVec.ofInt IntKind.u64.bits (y.fdiv (2 ^ min (40 : Int).toNat IntKind.u64.bits)) &&& BitVec.ofInt IntKind.u64.bits 255).toNat : Int)) = B41 y := by
 have e1 : y.fdiv (2 ^ min (40 : Int).toNat IntKind.u64.bits) = y / 1099511627776 := by
  rw [show (2 : Int) ^ min (40 : Int).toNat IntKind.u64.bits = 1099511627776 by decide, Int.fdiv_eq_ediv_of_nonneg _ (by decide)]
 rw [e1]; obtain ⟨k, hk⟩ : ∃ k : Nat, y / 1099511627776 = k := ⟨(y / 1099511627776).toNat, by omega⟩; have hk2 : k < 18446744073709551616 := by omega
 have e2 : (BitVec.ofInt IntKind.u64.bits (y / 1099511627776) &&& BitVec.ofInt IntKind.u64.bits 255).toNat = k % 256 := by
  rw [BitVec.toNat_and, hk]; have a1 : (BitVec.ofInt IntKind.u64.bits (k : Int)).toNat = k := by
   rw [BitVec.ofInt_natCast, BitVec.toNat_ofNat]; exact Nat.mod_eq_of_lt hk2
  have a2 : (BitVec.ofInt IntKind.u64.bits 255).toNat = 255 := by decide
  rw [a1, a2]; exact Nat.and_two_pow_sub_one_eq_mod k 8
 rw [e2, A04]; unfold B41; rw [hk]; have : ((k % 256 : Nat) : Int) % 18446744073709551616 = ((k % 256 : Nat) : Int) := by omega
 rw [this]; rw [J0 (by omega)]; omega
theorem D0i (lim q a : Nat) (z : Int) (B : A1) (s : Value) (l : List Int) (H : A1) (hl : lim ≤ B.next) (hs : SlB B s l) (hc : CuX B H q s a z) (hm : a ≤ 4000000000000000000) :
 A5 Tryz.prog lim A13 [Ptr q] H fun v H' => (∃ x z' : Int, v = .int .i64 x ∧ 0 ≤ x ∧ x ≤ 255 ∧ CuX B H' q s (a + 1) z' ∧ (l.length ≤ a → z' = gs z ∧ x = B41 z')) ∧ Chg q H H' := by
 obtain ⟨hB, hge, hlt, hb⟩ := hc; have hs1 := hs.ext hB; have c0 : H.cell q 0 = some s := by simp [A1.cell, hb]
 have c1 : H.cell q 1 = some (.int .i64 a) := by simp [A1.cell, hb]
 have hlen := hs1.sl.lenV; refine A1b.go rfl ?_; unfold X6; refine A0 ?_; simp only [sS]; refine A0 ?_; simp only [sS]; refine N9 (fun e' H' => H' = H ∧ ∃ x : Int, 0 ≤ x ∧ x ≤ 255 ∧ (l.length ≤ a → x = 0) ∧ e' = [Ptr q, .int .i64 0, .int .i64 x]) ?_ ?_
 ·refine D0 (decide ((a : Int) < (l.length : Int))) ?_ (fun hg => ?_) (fun hg => ?_)
  ·simp only [sS, Nat.zero_add, Nat.add_zero, c0, c1, hlen]; simp
  ·have hlt' : a < l.length := by have := of_decide_eq_true hg; omega
   obtain ⟨b1, o1, g1, g2, g3⟩ := hs1.sl.cell .i64 (i := (a : Int)) (by omega) (by omega); have g3' : H.cell b1 o1 = some (.int .u8 l[a]) := by
    rw [g3]; simp [A6g, hlt']
   obtain ⟨r1, r2⟩ := hs.rng _ (List.getElem_mem hlt'); have w1 : IntKind.i64.wrap l[a] = l[a] := E3 (by omega) (by omega); refine A4 ?_; simp only [sS, Nat.zero_add, Nat.add_zero, c0, c1, g1, g3', w1]; simp +decide only [sQ]; exact ⟨trivial, _, r1, r2, fun h => absurd h (by omega), rfl⟩
  ·refine A2 ?_; simp +decide only [sQ]; exact ⟨trivial, 0, by omega, by omega, fun _ => rfl, rfl⟩
 rintro e' H' ⟨rfl, x, hx0, hx1, hxl, rfl⟩; obtain ⟨st1, _⟩ := B45 (lim := lim) (x := .int .i64 ((a + 1 : Nat) : Int)) rfl (by omega) hb; refine A0 ?_; simp only [sS, Nat.zero_add, c1, D6 (i := a) (by omega), st1]; have hb1 : (H'.put q [s, .int .i64 ((a + 1 : Nat) : Int), .int .u64 z]).blk q = some [s, .int .i64 ((a + 1 : Nat) : Int), .int .u64 z] := D3 _ _ _; have hch1 := Chg.put q H' [s, .int .i64 ((a + 1 : Nat) : Int), .int .u64 z]; generalize H'.put q [s, .int .i64 ((a + 1 : Nat) : Int), .int .u64 z] = H1 at hb1 hch1 ⊢; have d2 : H1.cell q 2 = some (.int .u64 z) := by simp [A1.cell, hb1]
 have st2 : ∀ y : Int, C8 lim H1 1 (.pointer (some ⟨q, 2, none⟩)) (.int .u64 y) = some (undef, H1.put q [s, .int .i64 ((a + 1 : Nat) : Int), .int .u64 y]) := fun y => (B45 (lim := lim) (x := .int .u64 y) rfl (by omega) hb1).2
 refine A0 ?_; simp only [sS, Nat.zero_add, d2, st2]; have hy : ∃ y : Int, 0 ≤ y ∧ y < 18446744073709551616 ∧ (x = 0 → y = gs z) ∧ IntKind.u64.wrap (IntKind.u64.wrap (IntKind.u64.wrap (z * 6364136223846793005) + IntKind.u64.wrap x) + 1442695040888963407) = y := by
  refine ⟨_, by rw [A04]; omega, by rw [A04]; omega, fun h => ?_, rfl⟩; subst h; unfold gs gA gC; simp only [A04]; generalize z * 6364136223846793005 = w; omega
 obtain ⟨y, hy0, hy1, hyg, hy⟩ := hy; rw [hy]; have hb2 : (H1.put q [s, .int .i64 ((a + 1 : Nat) : Int), .int .u64 y]).blk q = some [s, .int .i64 ((a + 1 : Nat) : Int), .int .u64 y] := D3 _ _ _; have hch2 := hch1.trans (Chg.put q H1 [s, .int .i64 ((a + 1 : Nat) : Int), .int .u64 y]); generalize H1.put q [s, .int .i64 ((a + 1 : Nat) : Int), .int .u64 y] = H2 at hb2 hch2 ⊢; have e0 : H2.cell q 0 = some s := by simp [A1.cell, hb2]
 have e1 : H2.cell q 1 = some (.int .i64 ((a + 1 : Nat) : Int)) := by simp [A1.cell, hb2]
 have e2 : H2.cell q 2 = some (.int .u64 y) := by simp [A1.cell, hb2]
 have hcu : CuX B H2 q s (a + 1) y := ⟨Chg.ext hB hch2 hge, hge, Nat.lt_of_lt_of_le hlt hch2.next, hb2⟩; refine D7 (decide (((a + 1 : Nat) : Int) ≤ (l.length : Int))) ?_ (fun hg => ?_) (fun hg => ?_)
 ·simp only [sS, Nat.zero_add, Nat.add_zero, e0, e1, hlen]; simp
 ·have := of_decide_eq_true hg; refine A0 ?_; simp only [sS]; refine A3 ?_; simp +decide only [sQ]; exact ⟨⟨x, y, rfl, hx0, hx1, hcu, fun h => absurd h (by omega)⟩, hch2⟩
 ·have := of_decide_eq_false hg; refine A2 ?_; simp +decide only [sQ]; refine A0 ?_; have v1 : ¬ ((40 : Int) < 0) := by decide
  have v2 := D16 y hy0 hy1; simp only [sS, Nat.zero_add, e2, v1, v2]; refine A3 ?_; simp +decide only [sQ]; exact ⟨⟨B41 y, y, rfl, by unfold B41; omega, by unfold B41; omega, hcu, fun h => ⟨hyg (hxl h), rfl⟩⟩, hch2⟩
theorem D0f (lim q a : Nat) (z : Int) (B : A1) (s : Value) (l : List Int) (n : Int) (H : A1) (hl : lim ≤ B.next) (hs : SlB B s l) (hc : CuX B H q s a z) (hm : a ≤ 4000000000000000000) (hn : 1 < n ∧ n ≤ 200) :
 A5 Tryz.prog lim Q7 [Ptr q, .int .i64 n] H fun v H' => (∃ x z' : Int, v = .int .i64 x ∧ 0 ≤ x ∧ x < n ∧ CuX B H' q s (a + 1) z' ∧ (l.length ≤ a → z' = gs z ∧ x = B41 z' % n)) ∧ Chg q H H' := by
 refine V2.go rfl ?_; unfold Q8; refine A0 ?_; simp only [sS]; refine D7 false ?_ (fun hg => absurd hg (by decide)) (fun hg => ?_)
 ·simp only [sS]; simp; omega
 refine A2 ?_; simp +decide only [sQ]; refine A0 ?_; simp only [sS]; refine (D0i lim q a z B s l H hl hs hc hm).mono ?_; rintro _ H1 ⟨⟨x, z', rfl, hx0, hx1, hc1, hxl⟩, hch1⟩; simp only [sS]; refine D7 false ?_ (fun hg => absurd hg (by decide)) (fun hg => ?_)
 ·simp only [sS]; simp; omega
 refine A2 ?_; simp +decide only [sQ]; have e0 : ¬ (n = 0) := by omega
 refine A0 ?_; simp only [sS, e0]; refine A3 ?_; simp +decide only [sQ]; have em : x.tmod n = x % n := Int.tmod_eq_emod_of_nonneg hx0; refine ⟨⟨_, z', rfl, Int.tmod_nonneg _ hx0, Int.tmod_lt_of_pos _ (by omega), hc1, fun h => ?_⟩, hch1⟩; obtain ⟨h1, h2⟩ := hxl h; exact ⟨h1, by rw [em, h2]⟩
end Go.Proofs.YtmdeppkfboaepaaGreat
