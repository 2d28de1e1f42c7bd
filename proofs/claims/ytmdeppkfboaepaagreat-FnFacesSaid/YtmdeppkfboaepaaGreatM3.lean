/- Parts of the proof of a statement of this seat: contracts of functions that the law calls, or the law's own row; no condition. -/
import Derived.Test.YtmdeppkfboaepaaGreatM2
set_option maxHeartbeats 8000000
set_option linter.unusedSimpArgs false
set_option linter.unusedVariables false
namespace Go.Proofs.YtmdeppkfboaepaaGreat
open Go.Ab Ints
def Due (L : Nat) (n r : Int) (a : Nat) (z : Int) (k : Nat) : Prop := (a < L ∧ k = L - a + 281474976710656) ∨ (L ≤ a ∧ k < 281474976710656 ∧ B41 (gsN k (gs z)) % n = r)
theorem C3f {n r : Int} (z : Int) (hr : 0 ≤ r ∧ r < n) (hn : n ≤ 3) : ∃ k : Nat, k < 281474976710656 ∧ B41 (gsN k (gs z)) % n = r := by
 obtain ⟨k, h1, h2⟩ := D1o (gs z) r (by omega); have e : (2 : Nat) ^ 48 = 281474976710656 := by decide
 rw [e] at h1; exact ⟨k, h1, by rw [h2]; exact Int.emod_eq_of_lt hr.1 hr.2⟩
theorem B9y {L a : Nat} {n r : Int} (z : Int) (hr : 0 ≤ r ∧ r < n) (hn : n ≤ 3) : ∃ k : Nat, k ≤ L + 281474976710656 ∧ Due L n r a z k := by
 by_cases h : a < L
 ·exact ⟨L - a + 281474976710656, by omega, .inl ⟨h, rfl⟩⟩
 ·obtain ⟨k, h1, h2⟩ := C3f z hr hn; exact ⟨k, by omega, .inr ⟨by omega, h1, h2⟩⟩
theorem C9f {L a k : Nat} {n r x z z' : Int} (hd : Due L n r a z k) (hr : 0 ≤ r ∧ r < n) (hn : n ≤ 3) (hx : L ≤ a → z' = gs z ∧ x = B41 z' % n) (hne : x ≠ r) : ∃ k', k' < k ∧ Due L n r (a + 1) z' k' := by
 rcases hd with ⟨h1, h2⟩ | ⟨h1, h2, h3⟩
 ·by_cases h : a + 1 < L
  ·exact ⟨L - (a + 1) + 281474976710656, by omega, .inl ⟨h, rfl⟩⟩
  ·obtain ⟨k', g1, g2⟩ := C3f z' hr hn; exact ⟨k', by omega, .inr ⟨by omega, g1, g2⟩⟩
 ·obtain ⟨rfl, g2⟩ := hx h1; cases k with
  | zero => exact absurd (g2.trans h3) hne
  | succ k => exact ⟨k, by omega, .inr ⟨by omega, by omega, h3⟩⟩
theorem D23 {N : Nat} {O : List Int} (hN : N ≤ 3) (h : O.length < N) : ∃ r : Int, (0 ≤ r ∧ r < N) ∧ r ∉ O := by
 match O, h with
 | [], h => exact ⟨0, by simp at h; omega, by simp⟩
 | [x], h =>
   simp at h; by_cases hx : x = 0
   ·exact ⟨1, by omega, by simp; omega⟩
   ·exact ⟨0, by omega, by simp; omega⟩
 | [x, y], h =>
   simp at h; by_cases h0 : x ≠ 0 ∧ y ≠ 0
   ·exact ⟨0, by omega, by simp; omega⟩
   ·by_cases h1 : x ≠ 1 ∧ y ≠ 1
    ·exact ⟨1, by omega, by simp; omega⟩
    ·exact ⟨2, by omega, by simp; omega⟩
 | x :: y :: w :: O, h => simp at h; omega
theorem C7d {N o k k' j L : Nat} (h1 : o < N) (h2 : (N - o) * 600000000000000 + k ≤ j) (h3 : k' ≤ L + 281474976710656) (h4 : L ≤ 150000000000000) : (N - (o + 1)) * 600000000000000 + k' ≤ j - 1 := by
 obtain ⟨d, rfl⟩ : ∃ d, N = o + 1 + d := ⟨N - (o + 1), by omega⟩; rw [show o + 1 + d - (o + 1) = d by omega]; rw [show o + 1 + d - o = d + 1 by omega, Nat.add_mul, Nat.one_mul] at h2; generalize d * 600000000000000 = w at *
 omega
theorem D0m (lim q : Nat) (H : A1) : A5 Tryz.prog lim Q7 [Ptr q, .int .i64 1] H fun v H' => v = .int .i64 0 ∧ H' = H := by
 refine V2.go rfl ?_; unfold Q8; refine A0 ?_; simp only [sS]; refine D7 true ?_ (fun hg => ?_) (fun hg => absurd hg (by decide))
 ·simp only [sS]; simp
 ·refine A0 ?_; simp only [sS]; refine A3 ?_; simp +decide only [sQ]
theorem C9m (lim q a k : Nat) (z r : Int) (B : A1) (s : Value) (l : List Int) (N : Nat) (H : A1) (hl : lim ≤ B.next) (hs : SlB B s l) (hc : CuX B H q s a z) (hm : a ≤ 4000000000000000000) (hN : 1 ≤ N ∧ N ≤ 3) (hr : 0 ≤ r ∧ r < N) (hd : Due l.length N r a z k) :
 A5 Tryz.prog lim Q7 [Ptr q, .int .i64 N] H fun v H' => (∃ (x : Int) (a' : Nat) (z' : Int), v = .int .i64 x ∧ 0 ≤ x ∧ x < N ∧ a' ≤ a + 1 ∧ CuX B H' q s a' z' ∧ (x = r ∨ ∃ k', k' < k ∧ Due l.length N r a' z' k')) ∧ Chg q H H' := by
 by_cases h1 : N = 1
 ·subst h1; refine A5.mono (D0m lim q H) ?_; rintro v H' ⟨rfl, rfl⟩; exact ⟨⟨0, a, z, rfl, by omega, by omega, by omega, hc, .inl (by omega)⟩, Chg.refl _ _⟩
 ·refine A5.mono (D0f lim q a z B s l N H hl hs hc hm (by omega)) ?_; rintro v H' ⟨⟨x, z', rfl, hx0, hx1, hc', hx⟩, hch⟩; refine ⟨⟨x, a + 1, z', rfl, hx0, hx1, Nat.le_refl _, hc', ?_⟩, hch⟩; by_cases he : x = r
  ·exact .inl he
  ·exact .inr (C9f hd hr (by omega) hx he)
theorem C9c (lim q m : Nat) (B : A1) (s : Value) (l : List Int) (N : Nat) (H : A1) (hl : lim ≤ B.next) (hs : SlB B s l) (hc : Cu B H q s m) (hm : m ≤ 2000000000000000000) (hN : 1 ≤ N ∧ N ≤ 3) :
 A5 Tryz.prog lim A8w [Ptr q, .int .i64 N] H fun v H' => (∃ b O, C0 H' b v O ∧ H.next ≤ b ∧ N ≤ O.length ∧ O.length ≤ N + 1) ∧ Cu B H' q s (m + 3000000000000000) ∧ Chg q H H' := by
 have hqH := hc.lt; have hBq := hc.ge; have hL := hs.len; obtain ⟨a0, z0, ha0, hcx⟩ := hc.cux; refine A7m.go rfl ?_; unfold A00; refine A0 ?_; simp only [sS]; refine A0 ?_; simp only [sS]; refine A7 ?_; obtain ⟨k0, hk0, hd0⟩ := B9y (L := l.length) (a := a0) (n := N) (r := 0) z0 (by omega) (by omega); refine B9 (fun j e' H' => ∃ (O : List Int) (b : Nat) (v x4 x5 : Value) (a : Nat) (z : Int), O.length ≤ N ∧ C0 H' b v O ∧ H.next ≤ b ∧ CuX B H' q s a z ∧ Chg q H H' ∧ a + j ≤ m + 2500000000000000 ∧ (O.length = N ∨ ∃ (r : Int) (k : Nat), (0 ≤ r ∧ r < N) ∧ r ∉ O ∧ Due l.length N r a z k ∧ (N - O.length) * 600000000000000 + k ≤ j) ∧ e' = [Ptr q, .int .i64 N, .slice none 0 0, v, x4, x5]) (N * 600000000000000 + k0) ⟨[], H.next, _, _, _, a0, z0, by simp, Vec.nil _ _ _, Nat.le_refl _, hcx, Chg.refl _ _, by omega, .inr ⟨0, k0, by omega, by simp, hd0, by simp⟩, rfl⟩ ?_; rintro j e' H' ⟨O, b, v, x4, x5, a, z, hO, hv, hb, hcu, hch, haj, hdue, rfl⟩; have hnx := hch.next; have hlen : O6 v = some (.int .i64 O.length) := by have := hv.lenV; simpa using this
 refine A9 ?_; simp only [sS, hlen]; refine C4.split (fun hlt => ?_) (fun hlt => ?_)
 ·have hlt' : O.length < N := by have := of_decide_eq_true hlt; omega
  rcases hdue with hdue | ⟨r, k, hr, hrO, hd, hj⟩
  ·omega
  have hmul : 600000000000000 ≤ (N - O.length) * 600000000000000 := by
   have : 1 ≤ N - O.length := by omega
   omega
  refine A2 ?_; simp +decide only [sQ]; refine A8 ?_; refine A0 ?_; simp only [sS]; refine (C9m lim q a k z r B s l N H' hl hs hcu (by omega) hN hr hd).mono ?_; rintro _ H2 ⟨⟨x, a', z', rfl, hx0, hx1, ha', hcu2, hxr⟩, hch2⟩; have hn2 := hch2.next; have hv2 : C0 H2 b v O := Vec.chg hv hch2 (by omega); simp only [sS]; refine D0 (!(O.any (· == x))) ?_ (fun hg => ?_) (fun hg => ?_)
  ·simp only [sS]; refine (C4a _ _ _ _ _ hv2.sl (by omega)).eq ?_; simp only [sS]; exact ⟨trivial, trivial, trivial⟩
  ·have hxO : x ∉ O := by
    simp at hg; intro hm; exact hg x hm rfl
   obtain ⟨v', H3, b', g1, g2, g3, g4, g5⟩ := C0.push (lim := lim) hv2 x (by omega) (by omega); refine A4 ?_; simp only [sS, Q9, g1]; simp +decide only [sQ]; have hcu3 := hcu2.chg g5 (by omega) (by omega); have hch3 := Chg.above (hch.trans hch2) g5 hb; refine C6.mk (j - 1) (by omega) ⟨O ++ [x], b', v', _, _, a', z', by simp; omega, g2, by rcases g3 with rfl | g3 <;> omega, hcu3, hch3, by omega, ?_, rfl⟩; by_cases hfull : O.length + 1 = N
   ·left; simp; omega
   ·right; obtain ⟨r', hr', hrO'⟩ := D23 (N := N) (O := O ++ [x]) hN.2 (by simp; omega); obtain ⟨k', hk', hd'⟩ := B9y (L := l.length) (a := a') (n := N) (r := r') z' hr' (by omega); refine ⟨r', k', hr', hrO', hd', ?_⟩; have e1 : (O ++ [x]).length = O.length + 1 := by simp
    rw [e1]; exact C7d hlt' hj hk' hL
  ·have hxO : x ∈ O := by
    simp at hg; exact hg
   refine A2 ?_; simp +decide only [sQ]; rcases hxr with hxr | ⟨k', hk', hd'⟩
   ·exact absurd (hxr ▸ hxO) hrO
   ·exact C6.mk (j - 1) (by omega) ⟨O, b, v, _, _, a', z', hO, hv2, hb, hcu2, hch.trans hch2, by omega, .inr ⟨r, k', hr, hrO, hd', by omega⟩, rfl⟩
 have hON : O.length = N := by have := of_decide_eq_false hlt; omega
 refine B8 ?_; simp +decide only [sQ, reduceIte]; have hcu1 := hcu.cu (m := m + 2500000000000000) (by omega); clear hdue hd0 hk0 hcx hc; refine C7 (A0 ?_); simp only [sS]; refine (J3 lim q (m + 2500000000000000) B s l 24 H' hl hs hcu1 (by omega) (by omega)).mono ?_; rintro _ H2 ⟨⟨x, rfl, hx0, hx1⟩, hc2, hch2⟩; have hn2 := hch2.next; have hv2 : C0 H2 b v O := Vec.chg hv hch2 (by omega); simp only [sS]; refine A7 ?_; refine D0 (x == 0) ?_ (fun hg => ?_) (fun hg => ?_)
 ·simp only [sS]; simp
 ·obtain ⟨v', H3, b', g1, g2, g3, g4, g5⟩ := C0.push (lim := lim) hv2 (N : Int) (by omega) (by omega); refine A0 ?_; simp only [sS, Q9, g1]; refine A3 ?_; simp +decide only [sQ]; exact ⟨⟨b', O ++ [(N : Int)], g2, by rcases g3 with rfl | g3 <;> omega, by simp; omega, by simp; omega⟩, Cu.le (hc2.chg g5 (by omega) (by omega)) (by omega), Chg.above (hch.trans hch2) g5 hb⟩
 refine D0 (x == 1) ?_ (fun hg => ?_) (fun hg => ?_)
 ·simp only [sS]; simp
 ·have w1 : IntKind.i64.wrap ((N : Int) - 1) = ((N - 1 : Nat) : Int) := by rw [show (N : Int) - 1 = ((N - 1 : Nat) : Int) by omega]; exact J0 (by omega)
  obtain ⟨b1, o1, g1, _, g2⟩ := SlI.get hv2.sl (i := N - 1) (by omega); generalize O[N - 1]'(by omega) = w at g2; have f2 : C9 [.int .i64 0, .int .i64 0, .int .i64 0] [(0, 1, .int .i64 (-1)), (1, 1, .int .i64 N), (2, 1, .int .i64 w)] = some (([-1, (N : Int), w] : List Int).map vi) := by simp [C9, C2, F8]
  refine A4 ?_; simp only [sS, w1, g1, g2, I0 f2]; refine (F0 lim q _ B s l [-1, (N : Int), w] H2 hl hs hc2 (by omega) (by simp) (by simp)).mono ?_; rintro _ H3 ⟨⟨y, _, rfl⟩, hc3, hch3⟩; have hn3 := hch3.next; have hv3 : C0 H3 b v O := Vec.chg hv2 hch3 (by omega); obtain ⟨cs, st1, st2⟩ := Vec.put1 (lim := lim) hv3 (by omega) (i := 0) (x := .int .i64 y) rfl (by omega); have hiad : F1 1 v (.int .i64 0) = some (.pointer (some ⟨b, 0, none⟩)) := by
   have := Vec.iad hv3 .i64 (i := 0) (by omega); simpa using this
  simp only [sS, hiad, st1]; simp +decide only [sQ]; have hchp := Chg.put b H3 cs; refine A0 ?_; simp only [sS]; refine A3 ?_; simp +decide only [sQ]; refine ⟨⟨b, O.set 0 y, ?_, hb, by rw [List.length_set]; omega, by rw [List.length_set]; omega⟩, Cu.le (hc3.chg hchp (by omega) (by omega)) (by omega), Chg.above (hch.trans (hch2.trans hch3)) hchp hb⟩; show Vec _ b v (O.set 0 y).length 1 ((O.set 0 y).map vi); rw [List.length_set, List.map_set]; exact st2
 refine A2 ?_; simp +decide only [sQ]; refine A0 ?_; simp only [sS]; refine A3 ?_; simp +decide only [sQ]; exact ⟨⟨b, O, hv2, hb, by omega, by omega⟩, hc2.le (by omega), hch.trans hch2⟩
end Go.Proofs.YtmdeppkfboaepaaGreat
namespace Go.Proofs.YtmdeppkfboaepaaGreat
open Go.Ab Ints
def hvq (x : Int) : Int := x.tdiv 2
def D2 : Nat → List Int → List Int → Nat × List Int × List Int
 | 0, l, h => (0, l, h)
 | k + 1, l, h => if V4 l h then (k + 1, l, h) else D2 k (l.map hvq) (h.map hvq)
def InR (l : List Int) : Prop := ∀ x ∈ l, -4611686018427387904 ≤ x ∧ x ≤ 4611686018427387904
theorem InR.get {l : List Int} (h : InR l) {i : Nat} (hi : i < l.length) : -4611686018427387904 ≤ l[i] ∧ l[i] ≤ 4611686018427387904 := h _ (List.getElem_mem hi)
theorem C2g {x : Int} (h : -4611686018427387904 ≤ x ∧ x ≤ 4611686018427387904) : -4611686018427387904 ≤ hvq x ∧ hvq x ≤ 4611686018427387904 := by
 unfold hvq; rcases Int.le_total 0 x with h0 | h0
 ·rw [Int.tdiv_eq_ediv_of_nonneg h0]; omega
 ·have : x.tdiv 2 = -((-x) / 2) := by rw [← Int.tdiv_eq_ediv_of_nonneg (by omega), Int.neg_tdiv, Int.neg_neg]
  rw [this]; omega
theorem InR.half {l : List Int} (h : InR l) : InR (l.map hvq) := by
 intro x hx; obtain ⟨y, hy, rfl⟩ := List.mem_map.1 hx; exact C2g (h y hy)
theorem B49 {x : Int} (h : -4611686018427387904 ≤ x ∧ x ≤ 4611686018427387904) : IntKind.i64.wrap (x.tdiv 2) = hvq x := by
 have := C2g h; unfold hvq at this ⊢; rw [IntKind.wrap_i64]; omega
theorem C7o (lim : Nat) (v : Value) (k : Int) (low high : List Int) (H : A1) (hl : lim ≤ H.next) (hvq : V6 H v k low high) (hn : low.length ≤ 1000000000) (hlen' : high.length = low.length) :
 A5 Tryz.prog lim B8f [v] H fun v H' => v = .bool (!V4 low high) ∧ Ext H H' := by
 obtain ⟨s, t, rfl, hs, ht⟩ := hvq; refine B5z.go rfl ?_; unfold A8a; refine A0 ?_; simp only [sS, M5, C2]; have hx : Ext H (H.alloc [.int .i64 k, s, t]) := Ext.alloc _ _; have hs' := hs.keep (T8.of_ext hx (Nat.le_refl _)) (Nat.le_refl _); have ht' := ht.keep (T8.of_ext hx (Nat.le_refl _)) (Nat.le_refl _); have c1 : (H.alloc [.int .i64 k, s, t]).cell H.next 1 = some s := A0q _ _ _; have c2 : (H.alloc [.int .i64 k, s, t]).cell H.next 2 = some t := A0q _ _ _; generalize H.alloc [.int .i64 k, s, t] = H1 at hx hs' ht' c1 c2 ⊢; refine C7 (A0 ?_); simp only [sS, c1, hs'.lenV, Nat.zero_add]; refine A7 ?_; refine B9 (fun n e' H' => H' = H1 ∧ ∃ (i : Nat) (x3 x4 : Value), i + n = low.length ∧ V4 low high = V4 (low.drop i) (high.drop i) ∧
  e' = [.agg #[.int .i64 k, s, t], .pointer (some ⟨H.next, 0, none⟩), .bool false, x3, x4, s, .int .i64 low.length, .int .i64 i]) low.length ⟨rfl, 0, _, _, by omega, by simp, rfl⟩ ?_
 rintro n e' _ ⟨rfl, i, x3, x4, hin, hall, rfl⟩; refine A9 ?_; simp only [sS]; refine C4.split (fun hlt => ?_) (fun hlt => ?_)
 ·have hlt' : i < low.length := by simpa using hlt
  have hlt2 : i < high.length := by omega
  rw [List.drop_eq_getElem_cons hlt', List.drop_eq_getElem_cons hlt2] at hall; simp only [V4] at hall; refine A2 ?_; simp +decide only [sQ]; refine A7 ?_; obtain ⟨bb, o, h1, h2, h3⟩ := SlI.get hs' hlt'; obtain ⟨bb', o', h1', h2', h3'⟩ := SlI.get ht' hlt2; refine A0 ?_; simp only [sS, h1, h3]; generalize low[i] = x at hall h3 ⊢; generalize high[i] = y at hall h3' ⊢; have e2 : ¬ ((2 : Int) = 0) := by decide
  refine D0 (x.tmod 2 != 0 || y.tmod 2 != 0) ?_ (fun hg => ?_) (fun hg => ?_)
  ·cases hxo : (x.tmod 2 != 0)
   ·simp only [sS, if_neg e2, hxo, c2, h1', h3', Nat.zero_add]; simp
   ·simp only [sS, if_neg e2, hxo]; simp
  ·refine A0 ?_; simp only [sS]; refine A3 ?_; simp +decide only [sQ]; rw [hg, Bool.true_or] at hall; exact ⟨by rw [hall]; rfl, hx⟩
  ·rw [hg, Bool.false_or] at hall; refine A2 ?_; simp +decide only [sQ]; refine A4 ?_; simp only [sS, D6 (i := i) (by omega)]; simp +decide only [sQ]; exact C6.mk (n - 1) (by omega) ⟨rfl, i + 1, _, _, by omega, hall, rfl⟩
 ·have hge : low.length ≤ i := by simp at hlt; omega
  rw [List.drop_of_length_le hge, List.drop_of_length_le (by omega)] at hall; refine B8 ?_; simp +decide only [sQ, reduceIte]; refine A0 ?_; simp only [sS]; refine A3 ?_; simp +decide only [sQ]; exact ⟨by rw [hall]; rfl, hx⟩
def D4y (lo : Nat) (H : A1) (v : Value) (ok : Bool) (k : Int) (low high : List Int) : Prop :=
 (ok = false ∧ v = .tuple #[.agg #[.int .i64 0, .slice none 0 0, .slice none 0 0], .bool false]) ∨
 (ok = true ∧ ∃ s t b c, v = .tuple #[.agg #[.int .i64 k, s, t], .bool true] ∧ lo ≤ b ∧ lo ≤ c ∧ b ≠ c ∧ C0 H b s low ∧ C0 H c t high)
def G9 (k : Nat) (low high : List Int) : Bool × Nat × List Int × List Int := let r := D2 k low high; (G0 r.1 r.2.1 r.2.2, r)
structure u4 (H H' : A1) (res out b c : Nat) (n : Int) (s t : Value) (low high : List Int) : Prop where
 ext : Ext H H'
 ge : H.next ≤ res ∧ H.next ≤ out ∧ H.next ≤ b ∧ H.next ≤ c
 lt : res < H'.next ∧ out < H'.next ∧ b < H'.next ∧ c < H'.next
 ne : res ≠ out ∧ res ≠ b ∧ res ≠ c ∧ out ≠ b ∧ out ≠ c ∧ b ≠ c
 br : H'.blk res = some [.int .i64 0, .slice none 0 0, .slice none 0 0]
 bo : H'.blk out = some [.int .i64 n, s, t]
 vl : C0 H' b s low
 vh : C0 H' c t high
theorem u4.mono {H H' H'' : A1} {res out b c : Nat} {n : Int} {s t : Value} {low high : List Int} (h : u4 H H' res out b c n s t low high) (hx : Ext H' H'') : u4 H H'' res out b c n s t low high := by
 obtain ⟨h1, h2, h3, h4, h5, h6, h7, h8⟩ := h; have hn := hx.next; exact ⟨h1.trans hx, h2, by omega, h4, by rw [hx.blk _ h3.1]; exact h5, by rw [hx.blk _ h3.2.1]; exact h6, h7.ext hx, h8.ext hx⟩
theorem u4.boxV {H H' : A1} {res out b c : Nat} {n : Int} {s t : Value} {low high : List Int} (h : u4 H H' res out b c n s t low high) : V6 H' (.agg #[.int .i64 n, s, t]) n low high := ⟨s, t, rfl, h.vl.sl, h.vh.sl⟩
theorem u4.boxP {H H' : A1} {res out b c : Nat} {n : Int} {s t : Value} {low high : List Int} (h : u4 H H' res out b c n s t low high) : Ints.T0 H' out n s t low high := ⟨h.bo, h.vl.sl, h.vh.sl⟩
theorem u4.exp {H H' : A1} {res out b c : Nat} {n : Int} {s t : Value} {low high : List Int} (h : u4 H H' res out b c n s t low high) (m : Int) : u4 H (H'.put out [.int .i64 m, s, t]) res out b c m s t low high := by
 obtain ⟨h1, h2, h3, h4, h5, h6, h7, h8⟩ := h; have hc := Chg.put out H' [.int .i64 m, s, t]; exact ⟨hc.ext h1 h2.2.1, h2, h3, h4, by rw [K5 _ _ h4.1]; exact h5, D3 _ _ _, h7.chg hc (fun h => h4.2.2.2.1 h.symm), h8.chg hc (fun h => h4.2.2.2.2.1 h.symm)⟩
theorem u4.turnL {H H' : A1} {res out b c : Nat} {n : Int} {s t : Value} {low high : List Int} (h : u4 H H' res out b c n s t low high) {lim : Nat} (hl : lim ≤ H.next) {i : Nat} (x : Int) (hi : i < low.length) :
 ∃ H'', C8 lim H' 1 (.pointer (some ⟨b, i, none⟩)) (.int .i64 x) = some (undef, H'') ∧ u4 H H'' res out b c n s t (low.set i x) high := by
 obtain ⟨h1, h2, h3, h4, h5, h6, h7, h8⟩ := h; obtain ⟨cs, g1, g2⟩ := h7.put1 (lim := lim) (by omega) (S7 .i64 x) hi; have hc := Chg.put b H' cs; refine ⟨_, g1, hc.ext h1 h2.2.2.1, h2, h3, h4, by rw [K5 _ _ h4.2.1]; exact h5, by rw [K5 _ _ h4.2.2.2.1]; exact h6, ?_, h8.chg hc (fun h => h4.2.2.2.2.2 h.symm)⟩; unfold C0; rw [List.length_set, List.map_set]; exact g2
theorem u4.turnH {H H' : A1} {res out b c : Nat} {n : Int} {s t : Value} {low high : List Int} (h : u4 H H' res out b c n s t low high) {lim : Nat} (hl : lim ≤ H.next) {i : Nat} (x : Int) (hi : i < high.length) :
 ∃ H'', C8 lim H' 1 (.pointer (some ⟨c, i, none⟩)) (.int .i64 x) = some (undef, H'') ∧ u4 H H'' res out b c n s t low (high.set i x) := by
 obtain ⟨h1, h2, h3, h4, h5, h6, h7, h8⟩ := h; obtain ⟨cs, g1, g2⟩ := h8.put1 (lim := lim) (by omega) (S7 .i64 x) hi; have hc := Chg.put c H' cs; refine ⟨_, g1, hc.ext h1 h2.2.2.2, h2, h3, h4, by rw [K5 _ _ h4.2.2.1]; exact h5, by rw [K5 _ _ h4.2.2.2.2.1]; exact h6, h7.chg hc h4.2.2.2.2.2, ?_⟩; unfold C0; rw [List.length_set, List.map_set]; exact g2
theorem A3o (lim : Nat) (k : Nat) (s t : Value) (low high : List Int) (H : A1) (hl : lim ≤ H.next) (hs : SlI H s low) (ht : SlI H t high) (hn : low.length ≤ 100000000) (hlen : high.length = low.length) (hk : k ≤ 1000000) (hr : InR low) (hr2 : InR high) :
 A5 Tryz.prog lim B8t [.int .i64 k, s, t] H fun v H' => D4y H.next H' v (G9 k low high).1 (G9 k low high).2.1 (G9 k low high).2.2.1 (G9 k low high).2.2.2 ∧ Ext H H' := by
 refine B7r.go rfl ?_; unfold A76; refine A0 ?_; simp only [sS]; have hx0 : Ext H (H.alloc [.int .i64 0, .slice none 0 0, .slice none 0 0]) := Ext.alloc _ _; have hs1 := hs.keep (T8.of_ext hx0 (Nat.le_refl _)) (Nat.le_refl _); have ht1 := ht.keep (T8.of_ext hx0 (Nat.le_refl _)) (Nat.le_refl _); have hb0 : (H.alloc [.int .i64 0, .slice none 0 0, .slice none 0 0]).blk H.next = some [.int .i64 0, .slice none 0 0, .slice none 0 0] := A6 _ _; have hn1 : (H.alloc [.int .i64 0, .slice none 0 0, .slice none 0 0]).next = H.next + 1 := rfl; generalize H.alloc [.int .i64 0, .slice none 0 0, .slice none 0 0] = H1 at hx0 hs1 ht1 hb0 hn1 ⊢; refine A0 ?_; simp only [sS]; refine (Ints.U0 lim _ _ _ (by omega) hs1 (by omega)).mono ?_; rintro s1 H2 ⟨b, hb1, hb2, hvb, hx2⟩; simp only [sS]; refine (Ints.U0 lim _ _ _ (by have := hx2.next; omega) (ht1.keep (T8.of_ext hx2 (Nat.le_refl _)) (Nat.le_refl _)) (by omega)).mono ?_; rintro t1 H3 ⟨c, hc1, hc2, hvc, hx3⟩; have hvb3 := hvb.ext hx3; have hn2 := hx2.next; have hn3 := hx3.next; simp only [sS, C8q (S7 .i64 k) hvb.cellsV hvc.cellsV, E7 (lim := lim) (H := H3) (by omega)]; have hst : u4 H (H3.alloc [.int .i64 k, s1, t1]) H.next H3.next b c k s1 t1 low high := by
  refine ⟨((hx0.trans hx2).trans hx3).trans (Ext.alloc _ _), by omega, by rw [I5]; omega, by omega, ?_, A6 _ _, hvb3.ext (Ext.alloc _ _), hvc.ext (Ext.alloc _ _)⟩; rw [A0p _ _ (by omega), hx3.blk _ (by omega), hx2.blk _ (by omega), hb0]
 generalize H3.alloc [.int .i64 k, s1, t1] = H4 at hst ⊢; generalize H3.next = out at hst ⊢; refine A7 ?_; refine B9 (fun n e' H' => ∃ (low' high' : List Int) (x6 x7 x8 : Value), u4 H H' H.next out b c n s1 t1 low' high' ∧ D2 k low high = D2 n low' high' ∧ low'.length = low.length ∧ high'.length = low.length ∧ InR low' ∧ InR high' ∧ n ≤ 1000000 ∧
  e' = [.int .i64 k, s, t, .pointer (some ⟨H.next, 0, none⟩), .bool false, .pointer (some ⟨out, 0, none⟩), x6, x7, x8]) k
  ⟨low, high, _, _, _, hst, rfl, rfl, hlen, hr, hr2, hk, rfl⟩ ?_
 clear hst; rintro n e' H' ⟨low', high', x6, x7, x8, hst, hnorm, hll, hlh, hil, hih, hnk, rfl⟩; have hln := hst.ext.next; refine J1 (decide (0 < n) && !V4 low' high') (Ext H') ?_ (fun H'' hx hg => ?_) (fun H'' hx hg => ?_)
 ·have hgt : decide ((n : Int) > 0) = decide (0 < n) := by rw [Bool.eq_iff_iff]; simp
  simp only [sS, B7 hst.bo, Nat.zero_add, hgt]; cases h0 : decide (0 < n)
  ·simp only [sS]; simp [Ext.refl]
  ·simp only [sS, E9 hst.bo]; refine (C7o lim _ _ _ _ _ (by omega) hst.boxV (by omega) (by omega)).mono ?_; rintro v H'' ⟨rfl, hx⟩; simp only [sS]; simp [hx]
 ·replace hst := hst.mono hx; simp only [Bool.and_eq_true, decide_eq_true_eq, Bool.not_eq_true'] at hg; obtain ⟨hn0, hodd⟩ := hg; obtain ⟨m, rfl⟩ : ∃ m, n = m + 1 := ⟨n - 1, by omega⟩; have hnorm' : D2 k low high = D2 m (low'.map hvq) (high'.map hvq) := by
   rw [hnorm]; simp [D2, hodd]
  have hsub : IntKind.i64.wrap (((m + 1 : Nat) : Int) - 1) = (m : Int) := by rw [IntKind.wrap_i64]; omega
  refine A2 ?_; simp +decide only [sQ]; refine A8 ?_; have hl' := hst.ge; have hst2 := hst.exp (m : Int); have hput : ∀ (x y z : Value), C8 lim H'' 1 (.pointer (some ⟨out, 0, none⟩)) (.int .i64 m) = some (undef, H''.put out [.int .i64 m, s1, t1]) := by
   intro x y z; rw [S3 (S7 .i64 m) (by omega) hst.bo (by simp)]; rfl
  refine A0 ?_; simp only [sS, B7 hst.bo, Nat.zero_add, hsub, hput undef undef undef]; refine A0 ?_; simp only [sS, B7 hst2.bo, hst2.vl.lenV, Nat.zero_add]; refine A8 ?_; refine B9 (fun j e' H3 => ∃ (i : Nat) (x6 : Value), i + j = low.length ∧ u4 H H3 H.next out b c m s1 t1 (Y3 hvq low' i) (Y3 hvq high' i) ∧
   e' = [.int .i64 k, s, t, .pointer (some ⟨H.next, 0, none⟩), .bool false, .pointer (some ⟨out, 0, none⟩), x6, .int .i64 low'.length, .int .i64 i]) low.length ⟨0, _, by omega, by rw [A4a, A4a]; exact hst2, rfl⟩ ?_
  clear hst hst2 hput; rintro j e' H5 ⟨i, x6, hij, hst, rfl⟩; have hp1 := S6 hvq low' i; have hp2 := S6 hvq high' i; refine A9 ?_; simp only [sS]; refine C4.split (fun hlt => ?_) (fun hlt => ?_)
  ·have hlt' : i < low'.length := by simpa using hlt
   have hlt2 : i < high'.length := by omega
   refine A2 ?_; simp +decide only [sQ]; refine A7 ?_; refine A0 ?_; simp only [sS]; have e2 : ¬ ((2 : Int) = 0) := by decide
   have hc1 : H5.cell b i = some (.int .i64 low'[i]) := hst.vl.cell (by rw [List.getElem?_map, A62 hvq low' hlt']; rfl); obtain ⟨H6, hs6, hst6⟩ := hst.turnL (lim := lim) hl (hvq low'[i]) (by omega : i < (Y3 hvq low' i).length); rw [A63 hvq low' hlt'] at hst6; refine A0 ?_; simp only [sS, B7 hst.bo, Nat.zero_add, hst.vl.iad .i64 (show i < _ by omega), Nat.mul_one, hc1, if_neg e2, B49 (hil.get hlt'), hs6]; have hc2 : H6.cell c i = some (.int .i64 high'[i]) := hst6.vh.cell (by rw [List.getElem?_map, A62 hvq high' hlt2]; rfl); obtain ⟨H7, hs7, hst7⟩ := hst6.turnH (lim := lim) hl (hvq high'[i]) (by omega : i < (Y3 hvq high' i).length); rw [A63 hvq high' hlt2] at hst7; refine A4 ?_; simp only [sS, B7 hst6.bo, Nat.zero_add, hst6.vh.iad .i64 (show i < _ by omega), Nat.mul_one, hc2, if_neg e2, B49 (hih.get hlt2), hs7]; simp +decide only [sQ]; refine A4 ?_; simp only [sS, D6 (i := i) (by omega)]; simp +decide only [sQ]; exact C6.mk (j - 1) (by omega) ⟨i + 1, _, by omega, hst7, rfl⟩
  ·have hge : low'.length ≤ i := by simp at hlt; omega
   rw [A69 hvq low' hge, A69 hvq high' (by omega)] at hst; refine B8 ?_; simp +decide only [sQ, reduceIte]; exact C6.mk m (by omega) ⟨_, _, _, _, _, hst, hnorm', by simp [hll], by simp [hlh], hil.half, hih.half, by omega, rfl⟩
 ·replace hst := hst.mono hx; have hdone : D2 n low' high' = (n, low', high') := by
   cases n with
   | zero => rfl
   | succ m =>
     have : V4 low' high' = true := by simpa using hg
     simp only [D2, this, if_true]
  rw [hdone] at hnorm; refine B8 ?_; simp +decide only [sQ, reduceIte]; refine J1 (!G0 n low' high') (Ext H'') ?_ (fun H3 hx3 hg3 => ?_) (fun H3 hx3 hg3 => ?_)
  ·simp only [sS, E9 hst.bo]; have := hst.ext.next; refine (Ints.e8 lim _ _ _ _ _ (by omega) hst.boxV (by omega) (by omega)).mono ?_; rintro v H'' ⟨rfl, hx⟩; simp only [sS]; simp [hx]
  ·replace hst := hst.mono hx3; simp only [Bool.not_eq_true'] at hg3; have hz : C9 [.int .i64 0, .slice none 0 0, .slice none 0 0] [] = some [.int .i64 0, .slice none 0 0, .slice none 0 0] := rfl; refine A0 ?_; simp only [sS, hz, L5 (lim := lim) (b := H.next) hl hst.br]; refine A3 ?_; simp +decide only [sQ, E9 (D3 _ _ _)]; refine ⟨.inl ⟨?_, rfl⟩, Chg.ext hst.ext (Chg.put _ _ _) (Nat.le_refl _)⟩; simp only [G9, hnorm, hg3]
  ·replace hst := hst.mono hx3; simp only [Bool.not_eq_false'] at hg3; refine A2 ?_; simp +decide only [sQ]; refine A0 ?_; simp only [sS, E9 hst.bo, L5 (lim := lim) (b := H.next) hl hst.br]; refine A3 ?_; simp +decide only [sQ, E9 (D3 _ _ _)]; have hc := Chg.put H.next H3 [.int .i64 n, s1, t1]; refine ⟨.inr ⟨?_, s1, t1, b, c, ?_, hst.ge.2.2.1, hst.ge.2.2.2, hst.ne.2.2.2.2.2, ?_, ?_⟩, Chg.ext hst.ext hc (Nat.le_refl _)⟩
   ·simp only [G9, hnorm, hg3]
   ·simp only [G9, hnorm]
   ·simp only [G9, hnorm]; exact hst.vl.chg hc (fun h => hst.ne.2.1 h.symm)
   ·simp only [G9, hnorm]; exact hst.vh.chg hc (fun h => hst.ne.2.2.1 h.symm)
theorem C3j : C9 [.int .i64 0, .slice none 0 0, .slice none 0 0] [] = some [.int .i64 0, .slice none 0 0, .slice none 0 0] := rfl
theorem InR.set {l : List Int} (h : InR l) (i : Nat) {x : Int} (hx : -4611686018427387904 ≤ x ∧ x ≤ 4611686018427387904) : InR (l.set i x) := by
 intro y hy; rcases List.mem_or_eq_of_mem_set hy with hy | rfl
 ·exact h y hy
 ·exact hx
theorem D00 (lim n : Nat) (H : A1) (hl : lim ≤ H.next) (hn : n ≤ 1000000000) :
 A5 Tryz.prog lim A27 [.slice none 0 0, .int .i64 n] H fun v H' => Vec H' H.next v 0 1 [] ∧ Ext H H' := by
 refine A2j.go rfl ?_; unfold W6; refine A0 ?_; simp only [sS]; have hlt : decide ((n : Int) < 0) = false := by simp
 refine A9 ?_; simp only [sS, hlt]; refine C4.false_ (A2 ?_); simp +decide only [sQ]; have w0 : IntKind.i64.wrap (0 - ((0 : Nat) : Int)) = 0 := rfl; have w1 : IntKind.i64.wrap ((n : Int) - 0) = n := by rw [IntKind.wrap_i64]; omega
 refine A0 ?_; simp only [sS, O6, A0m, w0, w1]; refine A9 ?_; simp only [sS]; have hgt : decide ((n : Int) > 0) = decide (0 < n) := by rw [Bool.eq_iff_iff]; simp
 rw [hgt]; refine C4.split (fun h => ?_) (fun h => ?_)
 ·have hn0 : 0 < n := by simpa using h
  have hz : A6b H 1 8 [.int .i64 0] (.slice none 0 0) (.int .i64 n) = some (.slice (some ⟨H.next, 0, some 1⟩) n n, H.alloc (List.replicate n (.int .i64 0))) := by
   simp only [A6b]; rw [if_pos ⟨by omega, by omega, by omega⟩, A1c]; rfl
  have hs1 : O5 1 (.slice none 0 0) none (some (.int .i64 0)) none = some (.slice none 0 0) := rfl; have hs2 : O5 1 (.slice (some ⟨H.next, 0, some 1⟩) n n) none (some (.int .i64 ((0 : Nat) : Int))) none = some (.slice (some ⟨H.next, 0, some 1⟩) 0 n) := by
   simp [O5, Y7, Q0, C5f]
  refine A4 ?_; simp only [sS, O6, A0m, hs1, hz, hs2]; simp +decide only [sQ]; refine A0 ?_; simp only [sS]; refine A3 ?_; simp +decide only [sQ]; refine ⟨.inr ⟨n, some 1, List.replicate n (.int .i64 0), rfl, .inr rfl, Nat.lt_succ_self _, A6 _ _, rfl, Nat.zero_le _, by simp⟩, Ext.alloc _ _⟩
 ·refine A2 ?_; simp +decide only [sQ]; refine A0 ?_; simp only [sS]; refine A3 ?_; simp +decide only [sQ]; exact ⟨Vec.nil _ _ _, Ext.refl _⟩
theorem C9u {l : List Nat} (i : Nat) : (l.take i).sum ≤ l.sum := by
 have h := congrArg List.sum (List.take_append_drop i l); rw [List.sum_append] at h; omega
def A9n (ss : List (Value × List Int)) : Nat := (ss.map (·.2.length)).sum
theorem C7p (lim : Nat) (v : Value) (ss : List (Value × List Int)) (H : A1) (hl : lim ≤ H.next) (hvq : Sl H v ss.length 1 (ss.map (·.1))) (hs : ∀ p ∈ ss, SlI H p.1 p.2) (hn : A9n ss ≤ 1000000000) (hn2 : ss.length ≤ 1000000) :
 A5 Tryz.prog lim A1p [v] H fun u H' => ∃ b, H.next ≤ b ∧ C0 H' b u (ss.flatMap (·.2)) ∧ Ext H H' := by
 refine A1a.go rfl ?_; unfold T3; have hcell : ∀ (H' : A1), Ext H H' → ∀ i (hi : i < ss.length), ∃ b o, F1 1 v (.int .i64 i) = some (.pointer (some ⟨b, o, none⟩)) ∧ H'.cell b o = some ss[i].1 := by
  intro H' hx i hi; obtain ⟨b, o, h1, h2, h3⟩ := (hvq.keep (T8.of_ext hx (Nat.le_refl _)) (Nat.le_refl _)).cell .i64 (i := i) (by omega) (by omega); exact ⟨b, o, h1, h3.trans (by simp [hi])⟩
 refine A0 ?_; simp only [sS]; refine A0 ?_; simp only [sS]; refine C7 (A0 ?_); simp only [sS, hvq.lenV]; refine A7 ?_; refine B9 (fun n e' H' => H' = H ∧ ∃ (i : Nat) (x3 : Value), i + n = ss.length ∧ e' = [v, .slice none 0 0, .int .i64 (A9n (ss.take i)), x3, undef, undef, v, .int .i64 ss.length, .int .i64 i, undef, undef, undef]) ss.length ⟨rfl, 0, _, by omega, rfl⟩ ?_; rintro n e' H ⟨rfl, i, x3, hin, rfl⟩; refine A9 ?_; simp only [sS]; refine C4.split (fun hlt => ?_) (fun hlt => ?_)
 ·have hlt' : i < ss.length := by simpa using hlt
  refine A2 ?_; simp +decide only [sQ]; refine A7 ?_; obtain ⟨bb, o, h1, h2⟩ := hcell _ (Ext.refl _) i hlt'; refine A0 ?_; simp only [sS, h1, h2]; have hsum : A9n (ss.take (i + 1)) = A9n (ss.take i) + ss[i].2.length := by
   rw [List.take_succ_eq_append_getElem hlt']; simp only [A9n, List.map_append, List.sum_append, List.map_cons, List.map_nil, List.sum_cons, List.sum_nil, Nat.add_zero]
  have hle : A9n (ss.take (i + 1)) ≤ A9n ss := by
   have := C9u (l := ss.map (·.2.length)) (i + 1)
   rwa [← List.map_take] at this
  refine A0 ?_; simp only [sS, (hs _ (List.getElem_mem hlt')).lenV, C71 (i := A9n (ss.take i)) (j := ss[i].2.length) (by omega), ← hsum]; have hng : decide ((A9n (ss.take (i + 1)) : Int) < 0) = false := by simp
  refine E1 ?_; simp only [sS, hng]; refine C4.false_ (A2 ?_); simp +decide only [sQ]; refine A4 ?_; simp only [sS, D6 (i := i) (by omega)]; simp +decide only [sQ]; exact C6.mk (n - 1) (by omega) ⟨rfl, i + 1, _, by omega, rfl⟩
 ·have hge : ss.length ≤ i := by simp at hlt; omega
  rw [List.take_of_length_le hge]; obtain ⟨i', rfl⟩ : ∃ i', i' = i := ⟨i, rfl⟩; refine B8 ?_; simp +decide only [sQ, reduceIte]; refine A0 ?_; simp only [sS]; refine (D00 lim _ _ hl hn).mono ?_; rintro u H1 ⟨hu, hx1⟩; simp only [sS]; refine C7 (A0 ?_); simp only [sS, hvq.lenV]; refine A7 ?_; refine B9 (fun n e' H' => ∃ (i b : Nat) (x5 u : Value), i + n = ss.length ∧ H.next ≤ b ∧ C0 H' b u ((ss.take i).flatMap (·.2)) ∧ Ext H H' ∧ e' = [v, .slice none 0 0, .int .i64 (A9n ss), x3, u, x5, v, .int .i64 ss.length, .int .i64 i', v, .int .i64 ss.length, .int .i64 i]) ss.length ⟨0, _, _, _, by omega, Nat.le_refl _, hu, hx1, rfl⟩ ?_; clear hu hx1; rintro n e' H1 ⟨i, b, x5, u, hin, hb, hu, hx1, rfl⟩; refine A9 ?_; simp only [sS]; refine C4.split (fun hlt => ?_) (fun hlt => ?_)
  ·have hlt' : i < ss.length := by simpa using hlt
   refine A2 ?_; simp +decide only [sQ]; refine A7 ?_; obtain ⟨bb, o, h1, h2⟩ := hcell _ hx1 i hlt'; refine A0 ?_; simp only [sS, h1, h2]; have hsl := (hs _ (List.getElem_mem hlt')).keep (T8.of_ext hx1 (Nat.le_refl _)) (Nat.le_refl _); have hln : ∀ (ls : List (Value × List Int)), (ls.flatMap (·.2)).length = A9n ls := by
    intro ls; simp [A9n, List.length_flatMap]
   have hle : A9n (ss.take (i + 1)) ≤ A9n ss := by
    have := C9u (l := ss.map (·.2.length)) (i + 1)
    rwa [← List.map_take] at this
   have hcat : (ss.take (i + 1)).flatMap (·.2) = (ss.take i).flatMap (·.2) ++ ss[i].2 := by
    rw [List.take_succ_eq_append_getElem hlt', List.flatMap_append]; simp
   have hlc := congrArg List.length hcat; rw [List.length_append, hln, hln] at hlc; obtain ⟨u', H2, b', k1, k2, k3, k4, k5⟩ := hu.append (lim := lim) (by omega) hsl (by decide) (bytes := 8) (by rw [hln]; omega); refine A4 ?_; simp only [sS, k1]; simp +decide only [sQ]; refine A4 ?_; simp only [sS, D6 (i := i) (by omega)]; simp +decide only [sQ]; have hx2 := k4.ext hx1 hb; refine C6.mk (n - 1) (by omega) ⟨i + 1, b', _, u', by omega, ?_, ?_, hx2, rfl⟩
   ·have := hx1.next; rcases k3 with rfl | ⟨rfl, _⟩ <;> omega
   ·rw [hcat]; unfold C0; rw [List.length_append, List.map_append]; exact k2
  ·have hge : ss.length ≤ i := by simp at hlt; omega
   rw [List.take_of_length_le hge] at hu; refine B8 ?_; simp +decide only [sQ, reduceIte]; refine A0 ?_; simp only [sS]; refine A3 ?_; simp +decide only [sQ]; exact ⟨b, hb, hu, hx1⟩
theorem D2x (lim : Nat) (n : Int) (H : A1) : A5 Tryz.prog lim 189 [.int .i64 n] H fun v H' => v = .bool (n.tmod 2 != 0) ∧ H' = H := by
 refine B32.go rfl ?_; unfold A6o; have e2 : ¬ ((2 : Int) = 0) := by decide
 refine A0 ?_; simp only [sS]; refine A0 ?_; simp only [sS, if_neg e2]; refine A3 ?_; simp +decide only [sQ]
theorem B8g (lim : Nat) (s : Value) (l : List Int) (H : A1) (hs : SlI H s l) (hn : l.length ≤ 1000000000) :
 A5 Tryz.prog lim u3 [s, .func (.func 189) #[] #[]] H fun v H' => (∃ r : Int, v = .int .i64 r ∧ decide (r ≥ 0) = (l.any fun n => n.tmod 2 != 0)) ∧ H' = H := by
 refine m9.go rfl ?_; unfold Q4; refine A0 ?_; simp only [sS]; refine C7 (A0 ?_); simp only [sS, hs.lenV]; refine A7 ?_; refine B9 (fun k e' H' => H' = H ∧ ∃ (i : Nat) (x : Value), i + k = l.length ∧ (l.any fun n => n.tmod 2 != 0) = ((l.drop i).any fun n => n.tmod 2 != 0) ∧ e' = [s, .func (.func 189) #[] #[], .int .i64 0, x, .int .i64 l.length, .int .i64 i]) l.length ⟨rfl, 0, _, by omega, by simp, rfl⟩ ?_; rintro k e' H ⟨rfl, i, x, hik, hall, rfl⟩; refine A9 ?_; simp only [sS]; refine C4.split (fun hlt => ?_) (fun hlt => ?_)
 ·have hlt' : i < l.length := by simpa using hlt
  rw [List.drop_eq_getElem_cons hlt', List.any_cons] at hall; refine A2 ?_; simp +decide only [sQ]; refine A7 ?_; refine A0 ?_; simp only [sS]; refine E1 ?_; obtain ⟨bb, o, h1, h2, h3⟩ := hs.get hlt'; simp only [sS, h1, h3]; refine (D2x _ _ _).eq ?_; simp only [sS]; refine C4.split (fun hvq => ?_) (fun hvq => ?_)
  ·refine A0 ?_; simp only [sS]; refine A3 ?_; simp +decide only [sQ]; rw [hvq, Bool.true_or] at hall; exact ⟨⟨_, rfl, by rw [hall]; simp⟩, trivial⟩
  ·refine A2 ?_; simp +decide only [sQ]; refine A4 ?_; simp only [sS, D6 (i := i) (by omega)]; simp +decide only [sQ]; rw [hvq, Bool.false_or] at hall; exact C6.mk (k - 1) (by omega) ⟨rfl, i + 1, _, by omega, hall, rfl⟩
 ·refine B8 ?_; simp +decide only [sQ, reduceIte]; have hge : l.length ≤ i := by simp at hlt; omega
  rw [List.drop_of_length_le hge] at hall; refine A0 ?_; simp only [sS]; refine A3 ?_; simp +decide only [sQ]; refine ⟨⟨_, rfl, ?_⟩, trivial⟩; simp [hall]
theorem B2u (lim : Nat) (s : Value) (l : List Int) (H : A1) (hs : SlI H s l) (hn : l.length ≤ 1000000000) :
 A5 Tryz.prog lim Z2 [s, .func (.func 189) #[] #[]] H fun v H' => v = .bool (l.any fun n => n.tmod 2 != 0) ∧ H' = H := by
 refine Y5.go rfl ?_; unfold N8; refine A0 ?_; simp only [sS]; refine A0 ?_; simp only [sS]; refine (B8g _ _ _ _ hs hn).mono ?_; rintro v H1 ⟨⟨r, rfl, hr⟩, rfl⟩; simp only [sS]; refine A3 ?_; simp +decide only [sQ]; simp only [hr, and_self]
theorem C69 : ∀ (low high : List Int), high.length = low.length → ((low ++ high).any fun n => n.tmod 2 != 0) = V4 low high
 | [], high, h => by
   have : high = [] := List.length_eq_zero_iff.1 (by simpa using h); subst this; rfl
 | x :: l, [], h => by simp at h
 | x :: l, y :: h, hl => by
   have ih := C69 l h (by simpa using hl); rw [V4, ← ih]; simp only [List.cons_append, List.any_cons, List.any_append, Bool.or_assoc]
   congr 1
   rw [← Bool.or_assoc, ← Bool.or_assoc, Bool.or_comm (y.tmod 2 != 0)]
theorem C8r (lim : Nat) (k : Nat) (s t : Value) (low high : List Int) (H : A1) (hl : lim ≤ H.next) (hs : SlI H s low) (ht : SlI H t high) (hn : low.length ≤ 100000000) (hne : 1 ≤ low.length) (hlen : high.length = low.length) (hk : k ≤ 1000000) (hr : InR low) (hr2 : InR high) :
 A5 Tryz.prog lim B1n [.int .i64 k, s, t] H fun v H' => D4y H.next H' v (G9 k low high).1 (G9 k low high).2.1 (G9 k low high).2.2.1 (G9 k low high).2.2.2 ∧ Ext H H' := by
 refine B8p.go rfl ?_; unfold A9w; refine A0 ?_; simp only [sS]; have hx0 : Ext H (H.alloc [.int .i64 0, .slice none 0 0, .slice none 0 0]) := Ext.alloc _ _; have hs1 := hs.keep (T8.of_ext hx0 (Nat.le_refl _)) (Nat.le_refl _); have ht1 := ht.keep (T8.of_ext hx0 (Nat.le_refl _)) (Nat.le_refl _); have hb0 : (H.alloc [.int .i64 0, .slice none 0 0, .slice none 0 0]).blk H.next = some [.int .i64 0, .slice none 0 0, .slice none 0 0] := A6 _ _; have hn1 : (H.alloc [.int .i64 0, .slice none 0 0, .slice none 0 0]).next = H.next + 1 := rfl; generalize H.alloc [.int .i64 0, .slice none 0 0, .slice none 0 0] = H1 at hx0 hs1 ht1 hb0 hn1 ⊢; refine A0 ?_; simp only [sS]; refine (Ints.N3 lim _ _ _ (by omega) hs1 (by omega)).mono ?_; rintro s1 H2 ⟨b, hb1, hb2, hvb, hx2⟩; replace hb2 : b < H2.next := (hvb.blk (by omega)).elim fun _ h => h.2
 simp only [sS]; have hn2 := hx2.next; refine (Ints.N3 lim _ _ _ (by omega) (ht1.keep (T8.of_ext hx2 (Nat.le_refl _)) (Nat.le_refl _)) (by omega)).mono ?_; rintro t1 H3 ⟨c, hc1, hc2, hvc, hx3⟩; replace hc2 : c < H3.next := (hvc.blk (by omega)).elim fun _ h => h.2
 have hvb3 := hvb.ext hx3; have hn3 := hx3.next; simp only [sS, C8q (S7 .i64 k) hvb.cellsV hvc.cellsV, E7 (lim := lim) (H := H3) (by omega)]; have hst : u4 H (H3.alloc [.int .i64 k, s1, t1]) H.next H3.next b c k s1 t1 low high := by
  refine ⟨((hx0.trans hx2).trans hx3).trans (Ext.alloc _ _), by omega, by rw [I5]; omega, by omega, ?_, A6 _ _, hvb3.ext (Ext.alloc _ _), hvc.ext (Ext.alloc _ _)⟩; rw [A0p _ _ (by omega), hx3.blk _ (by omega), hx2.blk _ (by omega), hb0]
 generalize H3.alloc [.int .i64 k, s1, t1] = H4 at hst ⊢; generalize H3.next = out at hst ⊢; have hpair : C9 [.slice none 0 0, .slice none 0 0] [(0, 1, s1), (1, 1, t1)] = some [s1, t1] := by simp [C9, hvb.cellsV, hvc.cellsV]
 have cs1 := hvb.cellsV; clear hvb hvb3 hvc hx2 hx3 hs1 ht1 hx0 hb0; refine A7 ?_; refine B9 (fun n e' H' => ∃ (low' high' : List Int) (x6 x7 x8 x9 x10 x11 x12 : Value), u4 H H' H.next out b c n s1 t1 low' high' ∧ D2 k low high = D2 n low' high' ∧ low'.length = low.length ∧ high'.length = low.length ∧ InR low' ∧ InR high' ∧ n ≤ 1000000 ∧
  e' = [.int .i64 k, s, t, .pointer (some ⟨H.next, 0, none⟩), .bool false, .pointer (some ⟨out, 0, none⟩), x6, x7, x8, x9, x10, x11, x12]) k
  ⟨low, high, _, _, _, _, _, _, _, hst, rfl, rfl, hlen, hr, hr2, hk, rfl⟩ ?_
 clear hst; rintro n e' H' ⟨low', high', x6, x7, x8, x9, x10, x11, x12, hst, hnorm, hll, hlh, hil, hih, hnk, rfl⟩; have hln := hst.ext.next; refine J1 (decide (0 < n) && !V4 low' high') (Ext H') ?_ (fun H'' hx hg => ?_) (fun H'' hx hg => ?_)
 ·have hgt : decide ((n : Int) > 0) = decide (0 < n) := by rw [Bool.eq_iff_iff]; simp
  simp only [sS, B7 hst.bo, Nat.zero_add, hgt]; cases h0 : decide (0 < n)
  ·simp only [sS]; simp [Ext.refl]
  ·have hxp : Ext H' (H'.alloc [s1, t1]) := Ext.alloc _ _; have hstp := hst.mono hxp; simp only [sS, B7 hst.bo, Nat.zero_add, E0, hpair]; have hsl : Sl (H'.alloc [s1, t1]) (.slice (some ⟨H'.next, 0, some 0⟩) 2 2) 2 1 [s1, t1] := (Vec.lit (H := H') (n := 2) (sz := 1) (cells := [s1, t1]) rfl).sl; refine (C7p lim _ [(s1, low'), (t1, high')] _ (by simp only [I5]; omega) hsl (by intro p hp; simp at hp; rcases hp with rfl | rfl; exact hstp.vl.sl; exact hstp.vh.sl) (by simp [A9n]; omega) (by simp)).mono ?_; rintro u H5 ⟨q, hq, hvq, hx5⟩; simp only [List.flatMap_cons, List.flatMap_nil, List.append_nil] at hvq; simp only [sS]; refine (B2u _ _ _ _ hvq.sl (by simp; omega)).eq ?_; rw [C69 _ _ (by omega)]; simp only [sS]; simp [hxp.trans hx5]
 ·replace hst := hst.mono hx; simp only [Bool.and_eq_true, decide_eq_true_eq, Bool.not_eq_true'] at hg; obtain ⟨hn0, hodd⟩ := hg; obtain ⟨m, rfl⟩ : ∃ m, n = m + 1 := ⟨n - 1, by omega⟩; have hnorm' : D2 k low high = D2 m (low'.map hvq) (high'.map hvq) := by
   rw [hnorm]; simp [D2, hodd]
  have hsub : IntKind.i64.wrap (((m + 1 : Nat) : Int) - 1) = (m : Int) := by rw [IntKind.wrap_i64]; omega
  refine A2 ?_; simp +decide only [sQ]; refine A8 ?_; have hl' := hst.ge; have hst2 := hst.exp (m : Int); have hput : C8 lim H'' 1 (.pointer (some ⟨out, 0, none⟩)) (.int .i64 m) = some (undef, H''.put out [.int .i64 m, s1, t1]) := by
   rw [S3 (S7 .i64 m) (by omega) hst.bo (by simp)]; rfl
  refine A0 ?_; simp only [sS, B7 hst.bo, Nat.zero_add, hsub, hput]; generalize H''.put out [.int .i64 m, s1, t1] = H5 at hst2 ⊢; clear hput hst; have hst3 := hst2.mono (Ext.alloc H5 [s1, t1]); have hq5 : (H5.alloc [s1, t1]).blk H5.next = some [s1, t1] := A6 _ _; have hqn : H5.next < (H5.alloc [s1, t1]).next := Nat.lt_succ_self _; have hqb := hst2.lt; refine A0 ?_; simp only [sS, B7 hst2.bo, Nat.zero_add, E0, hpair, O6]; generalize H5.alloc [s1, t1] = H6 at hst3 hq5 hqn ⊢; generalize H5.next = q at hq5 hqn hqb ⊢; refine A8 ?_; refine B9 (fun j e' H7 => ∃ (i : Nat) (x6 x7 x11 x12 : Value), i + j = 2 ∧ u4 H H7 H.next out b c m s1 t1 (if i = 0 then low' else low'.map hvq) (if i ≤ 1 then high' else high'.map hvq) ∧ H7.blk q = some [s1, t1] ∧ q < H7.next ∧
   e' = [.int .i64 k, s, t, .pointer (some ⟨H.next, 0, none⟩), .bool false, .pointer (some ⟨out, 0, none⟩), x6, x7, .slice (some ⟨q, 0, some 0⟩) 2 2, .int .i64 ((2 : Nat) : Int), .int .i64 i, x11, x12]) 2 ⟨0, _, _, _, _, by omega, by simpa using hst3, hq5, hqn, rfl⟩ ?_
  clear hst2 hst3 hq5 hqn; rintro j e' H7 ⟨i, x6, x7, x11, x12, hij, hst7, hq7, hqn7, rfl⟩; rcases (by omega : i = 0 ∨ i = 1 ∨ i = 2) with rfl | rfl | rfl
  ·simp only [if_true, Nat.zero_le] at hst7; have hd : decide (((0 : Nat) : Int) < ((2 : Nat) : Int)) = true := by decide
   refine A9 ?_; simp only [sS, hd]; refine C4.true_ (A2 ?_); simp +decide only [sQ]; refine A7 ?_; have hi0 : F1 1 (.slice (some ⟨q, 0, some 0⟩) 2 2) (.int .i64 ((0 : Nat) : Int)) = some (.pointer (some ⟨q, 0 + 0, none⟩)) := A92 .i64 (by decide); refine A0 ?_; simp only [sS, hi0, B7 hq7, Nat.zero_add]; refine A0 ?_; simp only [sS, hst7.vl.lenV]; refine A8 ?_; refine B9 (fun j e' H3 => ∃ (i : Nat) (x7 : Value), i + j = low.length ∧ u4 H H3 H.next out b c m s1 t1 (Y3 hvq low' i) (high') ∧ H3.blk q = some [s1, t1] ∧ q < H3.next ∧
    e' = [.int .i64 k, s, t, .pointer (some ⟨H.next, 0, none⟩), .bool false, .pointer (some ⟨out, 0, none⟩), s1, x7, .slice (some ⟨q, 0, some 0⟩) 2 2, .int .i64 ((2 : Nat) : Int), .int .i64 ((0 : Nat) : Int), .int .i64 (low').length, .int .i64 i]) low.length ⟨0, _, by omega, by rw [A4a]; exact hst7, hq7, hqn7, rfl⟩ ?_
   clear hst7 hq7 hqn7; rintro j e' H8 ⟨i, x7, hij, hst, hq8, hqn8, rfl⟩; have hp1 := S6 hvq low' i; have hp2 := S6 hvq high' i; refine A9 ?_; simp only [sS]; refine C4.split (fun hlt => ?_) (fun hlt => ?_)
   ·have hlt' : i < low'.length := by simp at hlt; omega
    have hlt2 : i < high'.length := by omega
    refine A2 ?_; simp +decide only [sQ]; refine A7 ?_; refine A0 ?_; simp only [sS]; have e2 : ¬ ((2 : Int) = 0) := by decide
    have hc1 : H8.cell b i = some (.int .i64 low'[i]) := hst.vl.cell (by rw [List.getElem?_map, A62 hvq low' (by omega)]; rfl); obtain ⟨cs9, hs9, hv9⟩ := hst.vl.put1 (lim := lim) (i := i) (x := .int .i64 (hvq low'[i])) (by have := hst.ge; omega) (S7 .i64 _) (by omega); obtain ⟨H9, hs9', hst9⟩ := hst.turnL (lim := lim) hl (hvq low'[i]) (by omega : i < (Y3 hvq low' i).length); rw [A63 hvq low' (by omega)] at hst9; have e9 : H9 = H8.put b cs9 := by
     rw [hs9] at hs9'; simp only [Option.some.injEq, Prod.mk.injEq, true_and] at hs9'; exact hs9'.symm
    have hq9 : H9.blk q = some [s1, t1] := by rw [e9, K5 _ _ (by omega)]; exact hq8
    have hqn9 : q < H9.next := by rw [e9]; exact hqn8
    refine A4 ?_; simp only [sS, hst.vl.iad .i64 (show i < _ by omega), Nat.mul_one, hc1, if_neg e2, B49 (hil.get (by omega)), hs9']; simp +decide only [sQ]; refine A4 ?_; simp only [sS, D6 (i := i) (by omega)]; simp +decide only [sQ]; exact C6.mk (j - 1) (by omega) ⟨i + 1, _, by omega, hst9, hq9, hqn9, rfl⟩
   ·have hge : low'.length ≤ i := by simp at hlt; omega
    rw [A69 hvq low' (by omega)] at hst; refine B8 ?_; simp +decide only [sQ, reduceIte]; refine A4 ?_; simp only [sS, D6 (i := 0) (by omega)]; simp +decide only [sQ]; exact C6.mk (1 - 0) (by omega) ⟨0 + 1, _, _, _, _, by omega, by simpa using hst, hq8, hqn8, rfl⟩
  ·simp only [Nat.one_ne_zero, Nat.le_refl, reduceIte] at hst7; have hd : decide (((1 : Nat) : Int) < ((2 : Nat) : Int)) = true := by decide
   refine A9 ?_; simp only [sS, hd]; refine C4.true_ (A2 ?_); simp +decide only [sQ]; refine A7 ?_; have hi0 : F1 1 (.slice (some ⟨q, 0, some 0⟩) 2 2) (.int .i64 ((1 : Nat) : Int)) = some (.pointer (some ⟨q, 0 + 1, none⟩)) := A92 .i64 (by decide); refine A0 ?_; simp only [sS, hi0, B7 hq7, Nat.zero_add]; refine A0 ?_; simp only [sS, hst7.vh.lenV]; refine A8 ?_; refine B9 (fun j e' H3 => ∃ (i : Nat) (x7 : Value), i + j = low.length ∧ u4 H H3 H.next out b c m s1 t1 (low'.map hvq) (Y3 hvq high' i) ∧ H3.blk q = some [s1, t1] ∧ q < H3.next ∧
    e' = [.int .i64 k, s, t, .pointer (some ⟨H.next, 0, none⟩), .bool false, .pointer (some ⟨out, 0, none⟩), t1, x7, .slice (some ⟨q, 0, some 0⟩) 2 2, .int .i64 ((2 : Nat) : Int), .int .i64 ((1 : Nat) : Int), .int .i64 (high').length, .int .i64 i]) low.length ⟨0, _, by omega, by rw [A4a]; exact hst7, hq7, hqn7, rfl⟩ ?_
   clear hst7 hq7 hqn7; rintro j e' H8 ⟨i, x7, hij, hst, hq8, hqn8, rfl⟩; have hp1 := S6 hvq low' i; have hp2 := S6 hvq high' i; refine A9 ?_; simp only [sS]; refine C4.split (fun hlt => ?_) (fun hlt => ?_)
   ·have hlt' : i < low'.length := by simp at hlt; omega
    have hlt2 : i < high'.length := by omega
    refine A2 ?_; simp +decide only [sQ]; refine A7 ?_; refine A0 ?_; simp only [sS]; have e2 : ¬ ((2 : Int) = 0) := by decide
    have hc1 : H8.cell c i = some (.int .i64 high'[i]) := hst.vh.cell (by rw [List.getElem?_map, A62 hvq high' (by omega)]; rfl); obtain ⟨cs9, hs9, hv9⟩ := hst.vh.put1 (lim := lim) (i := i) (x := .int .i64 (hvq high'[i])) (by have := hst.ge; omega) (S7 .i64 _) (by omega); obtain ⟨H9, hs9', hst9⟩ := hst.turnH (lim := lim) hl (hvq high'[i]) (by omega : i < (Y3 hvq high' i).length); rw [A63 hvq high' (by omega)] at hst9; have e9 : H9 = H8.put c cs9 := by
     rw [hs9] at hs9'; simp only [Option.some.injEq, Prod.mk.injEq, true_and] at hs9'; exact hs9'.symm
    have hq9 : H9.blk q = some [s1, t1] := by rw [e9, K5 _ _ (by omega)]; exact hq8
    have hqn9 : q < H9.next := by rw [e9]; exact hqn8
    refine A4 ?_; simp only [sS, hst.vh.iad .i64 (show i < _ by omega), Nat.mul_one, hc1, if_neg e2, B49 (hih.get (by omega)), hs9']; simp +decide only [sQ]; refine A4 ?_; simp only [sS, D6 (i := i) (by omega)]; simp +decide only [sQ]; exact C6.mk (j - 1) (by omega) ⟨i + 1, _, by omega, hst9, hq9, hqn9, rfl⟩
   ·have hge : low'.length ≤ i := by simp at hlt; omega
    rw [A69 hvq high' (by omega)] at hst; refine B8 ?_; simp +decide only [sQ, reduceIte]; refine A4 ?_; simp only [sS, D6 (i := 1) (by omega)]; simp +decide only [sQ]; exact C6.mk (1 - 1) (by omega) ⟨1 + 1, _, _, _, _, by omega, by simpa using hst, hq8, hqn8, rfl⟩
  ·have hst8 : u4 H H7 H.next out b c m s1 t1 (low'.map hvq) (high'.map hvq) := by simpa using hst7
   have hd : decide (((2 : Nat) : Int) < ((2 : Nat) : Int)) = false := by decide
   refine A9 ?_; simp only [sS, hd]; refine C4.false_ (B8 ?_); simp +decide only [sQ, reduceIte]; exact C6.mk m (by omega) ⟨_, _, _, _, _, _, _, _, _, hst8, hnorm', by simp [hll], by simp [hlh], hil.half, hih.half, by omega, rfl⟩
 ·replace hst := hst.mono hx; have hdone : D2 n low' high' = (n, low', high') := by
   cases n with
   | zero => rfl
   | succ m =>
     have : V4 low' high' = true := by simpa using hg
     simp only [D2, this, if_true]
  rw [hdone] at hnorm; refine B8 ?_; simp +decide only [sQ, reduceIte]; refine D7 (!G0 n low' high') ?_ (fun hg3 => ?_) (fun hg3 => ?_)
  ·simp only [sS]; refine (Ints.B67 _ hst.boxP (by omega) (by omega)).eq ?_; simp only [sS]; simp
  ·simp only [Bool.not_eq_true'] at hg3; refine A0 ?_; simp only [sS, C3j, L5 (lim := lim) (b := H.next) hl hst.br]; refine A3 ?_; simp +decide only [sQ, E9 (D3 _ _ _)]; refine ⟨.inl ⟨?_, rfl⟩, Chg.ext hst.ext (Chg.put _ _ _) (Nat.le_refl _)⟩; simp only [G9, hnorm, hg3]
  ·simp only [Bool.not_eq_false'] at hg3; refine A2 ?_; simp +decide only [sQ]; refine A0 ?_; simp only [sS, E9 hst.bo, L5 (lim := lim) (b := H.next) hl hst.br]; refine A3 ?_; simp +decide only [sQ, E9 (D3 _ _ _)]; have hc := Chg.put H.next H'' [.int .i64 n, s1, t1]; refine ⟨.inr ⟨?_, s1, t1, b, c, ?_, hst.ge.2.2.1, hst.ge.2.2.2, hst.ne.2.2.2.2.2, ?_, ?_⟩, Chg.ext hst.ext hc (Nat.le_refl _)⟩
   ·simp only [G9, hnorm, hg3]
   ·simp only [G9, hnorm]
   ·simp only [G9, hnorm]; exact hst.vl.chg hc (fun h => hst.ne.2.1 h.symm)
   ·simp only [G9, hnorm]; exact hst.vh.chg hc (fun h => hst.ne.2.2.1 h.symm)
end Go.Proofs.YtmdeppkfboaepaaGreat
namespace Go.Proofs.YtmdeppkfboaepaaGreat
open Go.Ab Ints
theorem d4 (lim : Nat) (a b : Int) (H : A1) : A5 Tryz.prog lim A6n [.int .i64 a, .int .i64 b] H fun v H' => v = .int .i64 (if a < b then a else b) ∧ H' = H := by
 refine B4g.go rfl ?_; unfold A6i; refine A0 ?_; simp only [sS]; refine A9 ?_; simp only [sS]; refine C4.split (fun h => ?_) (fun h => ?_)
 ·have h' : a < b := by simpa using h
  refine A0 ?_; simp only [sS]; refine A3 ?_; simp +decide only [sQ]; rw [if_pos h']; exact ⟨rfl, trivial⟩
 ·have h' : ¬ a < b := by simpa using h
  refine A2 ?_; simp +decide only [sQ]; refine A0 ?_; simp only [sS]; refine A3 ?_; simp +decide only [sQ]; rw [if_neg h']; exact ⟨rfl, trivial⟩
theorem B61 (lim q m : Nat) (B : A1) (s : Value) (l : List Int) (H : A1) (hl : lim ≤ B.next) (hs : SlB B s l) (hc : Cu B H q s m) (hm : m ≤ 2900000000000000000) :
 A5 Tryz.prog lim A8x [Ptr q] H fun v' H' => (∃ n : Nat, v' = .int .i64 n ∧ 1 ≤ n ∧ n ≤ 3) ∧ Cu B H' q s (m + 2) ∧ Chg q H H' := by
 refine A7k.go rfl ?_; unfold A1d; refine A0 ?_; simp only [sS]; have f2 : C9 [.int .i64 0, .int .i64 0, .int .i64 0, .int .i64 0] [(0, 1, .int .i64 1), (1, 1, .int .i64 2), (2, 1, .int .i64 2), (3, 1, .int .i64 3)] = some (([1, 2, 2, 3] : List Int).map vi) := by simp [C9, C2, F8]
 refine A0 ?_; simp only [sS, I0 f2]; refine (F0 lim q m B s l [1, 2, 2, 3] H hl hs hc (by omega) (by simp) (by simp)).mono ?_; rintro _ H1 ⟨⟨n, hnm, rfl⟩, hc1, hch1⟩; simp only [sS]; refine A3 ?_; simp +decide only [sQ]; simp at hnm; exact ⟨⟨n.toNat, by congr 1; omega, by omega, by omega⟩, hc1, hch1⟩
theorem A68 : ∀ (k : Nat) (low high : List Int), (D2 k low high).2.1.length = low.length ∧ (D2 k low high).2.2.length = high.length
 | 0, low, high => ⟨rfl, rfl⟩
 | k + 1, low, high => by
   unfold D2; split
   ·exact ⟨rfl, rfl⟩
   ·have := A68 k (low.map hvq) (high.map hvq); simpa using this
def D0z (lo : Nat) (H : A1) (v : Value) (n : Nat) : Prop := ∃ (k : Int) (s t : Value) (b c : Nat) (low high : List Int), v = .agg #[.int .i64 k, s, t] ∧ lo ≤ b ∧ lo ≤ c ∧ b ≠ c ∧ C0 H b s low ∧ C0 H c t high ∧ low.length = n ∧ high.length = n
abbrev z3 : List Value := [.int .i64 0, .slice none 0 0, .slice none 0 0]
theorem A9v (lim : Nat) (a b lo hi : Int) (H : A1) (h1 : lo ≤ a ∧ a ≤ hi) (h2 : lo ≤ b ∧ b ≤ hi) : A5 Tryz.prog lim A8n [.int .i64 a, .int .i64 b] H fun v H' => (∃ r, v = .int .i64 r ∧ lo ≤ r ∧ r ≤ hi) ∧ H' = H := by
 refine A5.mono (V7 lim a b H) ?_; rintro v H' ⟨rfl, rfl⟩; refine ⟨⟨_, rfl, ?_⟩, rfl⟩; split <;> omega
theorem A66 (lim : Nat) (a b lo hi : Int) (H : A1) (h1 : lo ≤ a ∧ a ≤ hi) (h2 : lo ≤ b ∧ b ≤ hi) : A5 Tryz.prog lim A6n [.int .i64 a, .int .i64 b] H fun v H' => (∃ r, v = .int .i64 r ∧ lo ≤ r ∧ r ≤ hi) ∧ H' = H := by
 refine A5.mono (d4 lim a b H) ?_; rintro v H' ⟨rfl, rfl⟩; refine ⟨⟨_, rfl, ?_⟩, rfl⟩; split <;> omega
theorem D0h (lim q m : Nat) (B : A1) (s : Value) (l : List Int) (n : Nat) (H : A1) (hl : lim ≤ B.next) (hs : SlB B s l) (hc : Cu B H q s m) (hm : m ≤ 2600000000000000000) (hn : n ≤ 3) :
 A5 Tryz.prog lim B2z [Ptr q, .int .i64 n] H fun v H' => D0z H.next H' v n ∧ Cu B H' q s (m + 100) ∧ Chg q H H' := by
 have hqH := hc.lt; have hBq := hc.ge; refine B1b.go rfl ?_; unfold A24; refine A0 ?_; simp only [sS]; have hx := Ext.alloc H z3; have hr2 : (H.alloc z3).blk H.next = some z3 := A6 _ _; have hnA : (H.alloc z3).next = H.next + 1 := rfl; generalize H.alloc z3 = HA at hx hr2 hnA ⊢; have hcA := hc.of_ext hx; have f7 : C9 [.int .i64 0, .int .i64 0, .int .i64 0, .int .i64 0, .int .i64 0, .int .i64 0, .int .i64 0] [(0, 1, .int .i64 0), (1, 1, .int .i64 0), (2, 1, .int .i64 1), (3, 1, .int .i64 2), (4, 1, .int .i64 3), (5, 1, .int .i64 7), (6, 1, .int .i64 8)] = some (([0, 0, 1, 2, 3, 7, 8] : List Int).map vi) := by simp [C9, C2, F8]
 refine A0 ?_; simp only [sS, I0 f7]; refine (F0 lim q m B s l [0, 0, 1, 2, 3, 7, 8] HA hl hs hcA (by omega) (by simp) (by simp)).mono ?_; rintro _ HB ⟨⟨k, hkm, rfl⟩, hcB, hchB⟩; obtain ⟨k, rfl, hk8⟩ : ∃ k' : Nat, k = k' ∧ k' ≤ 8 := by
  simp at hkm; exact ⟨k.toNat, by omega, by omega⟩
 have hP : (1 : Int) ≤ 2 ^ k ∧ (2 : Int) ^ k ≤ 256 := by
  have h1 := I7 k; have h2 := A38 (k := k) (m := 8) hk8; have e : (2 : Int) ^ 8 = 256 := by decide
  omega
 have pw : ∀ (lim' : Nat) (H' : A1), A5 Tryz.prog lim' Y6 [.int .i64 k] H' fun v H'' => v = .int .i64 (2 ^ k) ∧ H'' = H' := fun lim' H' => Ints.O4 lim' k H' (by omega)
 generalize (2 : Int) ^ k = P at hP pw; simp only [sS]; have w8 : IntKind.i64.wrap (8 * P) = 8 * P := E3 (by omega) (by omega); refine A0 ?_; simp only [sS]; refine (pw _ _).eq ?_; simp only [sS, w8]; refine A0 ?_; simp only [sS]; refine A7 ?_; have hnB := hchB.next; have hr2B := hchB.kept hr2 (by omega) (by omega); have hch0 : Chg q H HB := (Chg.of_ext hx).trans hchB; refine B9 (fun j e' H' => ∃ (i : Nat) (low high : List Int) (b c : Nat) (v w x7 x8 : Value), i + j = n ∧ low.length = i ∧ high.length = i ∧ (∀ y ∈ low, -2048 ≤ y ∧ y ≤ 2048) ∧ (∀ y ∈ high, -7000 ≤ y ∧ y ≤ 7000) ∧ C0 H' b v low ∧ C0 H' c w high ∧ HA.next ≤ b ∧ HA.next ≤ c ∧ (i = 0 ∧ w = .slice none 0 0 ∨ b < H'.next ∧ c < H'.next ∧ b ≠ c) ∧ H'.blk H.next = some z3 ∧ HA.next ≤ H'.next ∧ Cu B H' q s (m + 2 + 24 * i) ∧ Chg q H H' ∧ e' = [Ptr q, .int .i64 n, Ptr H.next, .int .i64 k, .int .i64 (8 * P), v, w, x7, x8, undef, undef, undef, undef]) n ⟨0, [], [], HA.next, HA.next + 1, _, _, _, _, by omega, rfl, rfl, by simp, by simp, Vec.nil _ _ _, Vec.nil _ _ _, Nat.le_refl _, by omega, .inl ⟨rfl, rfl⟩, hr2B, hnB, hcB, hch0, rfl⟩ ?_; clear hr2B hnB hcB hch0 hchB hkm f7 hcA hr2; rintro j e' H' ⟨i, low, high, b, c, v, w, x7, x8, hij, hli, hhi, hlr, hhr, hv, hw, hb, hcc, hbc, hr2, hnH, hcu, hch, rfl⟩; have hlen : O6 v = some (.int .i64 i) := by have := hv.lenV; rw [hli] at this; simpa using this
 have wN : IntKind.i64.wrap (0 - P) = -P := by rw [Int.zero_sub]; exact E3 (by omega) (by omega)
 have w2 : IntKind.i64.wrap (2 * (8 * P)) = 2 * (8 * P) := E3 (by omega) (by omega); have wM : IntKind.i64.wrap (0 - 8 * P) = -(8 * P) := by rw [Int.zero_sub]; exact E3 (by omega) (by omega)
 have w1 : IntKind.i64.wrap (8 * P - 1) = 8 * P - 1 := E3 (by omega) (by omega); have w0 : IntKind.i64.wrap (1 - 8 * P) = 1 - 8 * P := E3 (by omega) (by omega); refine A9 ?_; simp only [sS, hlen]; refine C4.split (fun hlt => ?_) (fun hlt => ?_)
 ·have hlt' : i < n := by have := of_decide_eq_true hlt; omega
  refine A2 ?_; simp +decide only [sQ]; refine A8 ?_; refine A0 ?_; simp only [sS]; refine (pw _ _).eq ?_; simp only [sS, wN, w2]; refine (J3 lim q _ B s l (2 * (8 * P)) H' hl hs hcu (by omega) (by omega)).mono ?_; rintro _ H1 ⟨⟨p1, rfl, hp10, hp11⟩, hc1, hch1⟩; have wp1 : IntKind.i64.wrap (p1 - 8 * P) = p1 - 8 * P := E3 (by omega) (by omega); simp only [sS, wp1]; refine (J3 lim q _ B s l 9 H1 hl hs hc1 (by omega) (by omega)).mono ?_; rintro _ H2 ⟨⟨p2, rfl, hp20, hp21⟩, hc2, hch2⟩; have wp2 : IntKind.i64.wrap (p2 - 4) = p2 - 4 := E3 (by omega) (by omega); have f5 : C9 [.int .i64 0, .int .i64 0, .int .i64 0, .int .i64 0, .int .i64 0] [(0, 1, .int .i64 0), (1, 1, .int .i64 (-1)), (2, 1, .int .i64 (-P)), (3, 1, .int .i64 (p1 - 8 * P)), (4, 1, .int .i64 (p2 - 4))] = some (([0, -1, -P, p1 - 8 * P, p2 - 4] : List Int).map vi) := by simp [C9, C2, F8]
  simp only [sS, wp2, I0 f5]; refine (F0 lim q _ B s l [0, -1, -P, p1 - 8 * P, p2 - 4] H2 hl hs hc2 (by omega) (by simp) (by simp)).mono ?_; rintro _ H3 ⟨⟨x, hxm, rfl⟩, hc3, hch3⟩; have hxr : -2048 ≤ x ∧ x ≤ 2048 := by
   simp at hxm; omega
  have wx : IntKind.i64.wrap (x + 1) = x + 1 := E3 (by omega) (by omega); simp only [sS]; refine A0 ?_; simp only [sS, wx]; refine (pw _ _).eq ?_; simp only [sS]; refine (pw _ _).eq ?_; simp only [sS]; refine (J3 lim q _ B s l P H3 hl hs hc3 (by omega) (by omega)).mono ?_; rintro _ H4 ⟨⟨p3, rfl, hp30, hp31⟩, hc4, hch4⟩; simp only [sS, w2]; refine (J3 lim q _ B s l (2 * (8 * P)) H4 hl hs hc4 (by omega) (by omega)).mono ?_; rintro _ H5 ⟨⟨p4, rfl, hp40, hp41⟩, hc5, hch5⟩; have f6 : C9 [.int .i64 0, .int .i64 0, .int .i64 0, .int .i64 0, .int .i64 0] [(0, 1, .int .i64 0), (1, 1, .int .i64 1), (2, 1, .int .i64 P), (3, 1, .int .i64 p3), (4, 1, .int .i64 p4)] = some (([0, 1, P, p3, p4] : List Int).map vi) := by simp [C9, C2, F8]
  simp only [sS, I0 f6]; refine (F0 lim q _ B s l [0, 1, P, p3, p4] H5 hl hs hc5 (by omega) (by simp) (by simp)).mono ?_; rintro _ H6 ⟨⟨y, hym, rfl⟩, hc6, hch6⟩; have hyr : 0 ≤ y ∧ y ≤ 4096 := by
   simp at hym; omega
  have wy : IntKind.i64.wrap (x + 1 + y) = x + 1 + y := E3 (by omega) (by omega); simp only [sS, wy]; have hch06 := hch1.trans (hch2.trans (hch3.trans (hch4.trans (hch5.trans hch6)))); have hn6 := hch06.next; have hv6 : C0 H6 b v low := Vec.chg hv hch06 (by omega); have hr6 := hch06.kept hr2 (by omega) (by omega); refine A0 ?_; simp only [sS, wM, w1]; refine (A66 lim x (8 * P - 1) (-2048) 2048 H6 (by omega) (by omega)).mono ?_; rintro _ HH ⟨⟨e1, rfl, he10, he11⟩, hh⟩; subst hh; simp only [sS]; refine (A9v lim (-(8 * P)) e1 (-2048) 2048 HH (by omega) (by omega)).mono ?_; rintro _ HI ⟨⟨e2, rfl, he20, he21⟩, hh⟩; subst hh; obtain ⟨v', H7, b', g1, g2, g3, g4, g5⟩ := C0.push (lim := lim) hv6 e2 (by omega) (by omega); have hn7 := g5.next; simp only [sS, Q9, g1]; have hc7 := hc6.chg g5 (by omega) (by omega); have hch7 := Chg.above (hch.trans hch06) g5 (by omega); have hr7 : H7.blk H.next = some z3 := by rw [g5.blk _ (by omega) (by omega)]; exact hr6
  have hb' : HA.next ≤ b' := by rcases g3 with rfl | g3 <;> omega
  refine A4 ?_; simp only [sS, w0]; refine (A66 lim (x + 1 + y) (8 * P) (-2048) 6145 H7 (by omega) (by omega)).mono ?_; rintro _ HH ⟨⟨e3, rfl, he30, he31⟩, hh⟩; subst hh; simp only [sS]; refine (A9v lim (1 - 8 * P) e3 (-2048) 6145 HH (by omega) (by omega)).mono ?_; rintro _ HI ⟨⟨e4, rfl, he40, he41⟩, hh⟩; subst hh; have hlb : b' < HI.next := g4; obtain ⟨c0, hw0, hc0, hcb0, hcn0⟩ : ∃ c0, C0 HI c0 w high ∧ HA.next ≤ c0 ∧ c0 ≠ b' ∧ (c0 < HI.next ∨ HI.next < c0) := by
   rcases hbc with ⟨hi0, rfl⟩ | ⟨hb1, hc1', hbc1⟩
   ·have : high = [] := List.length_eq_zero_iff.1 (by omega); subst this; exact ⟨HI.next + 5, Vec.nil _ _ _, by omega, by omega, .inr (by omega)⟩
   ·refine ⟨c, Vec.chg (Vec.chg hw hch06 (by omega)) g5 (by omega), hcc, ?_, .inl (by omega)⟩; rcases g3 with rfl | g3 <;> omega
  obtain ⟨w', H8, c', k1, k2, k3, k4, k5⟩ := C0.push (lim := lim) hw0 e4 (by omega) (by omega); have hn8 := k5.next; simp only [sS, Q9, k1]; simp +decide only [sQ]; refine C6.mk (j - 1) (by omega) ⟨i + 1, low ++ [e2], high ++ [e4], b', c', v', w', _, _, by omega, by simp; omega, by simp; omega, ?_, ?_, Vec.chg g2 k5 (by omega), k2, hb', by rcases k3 with rfl | k3 <;> omega, .inr ⟨by omega, k4, by rcases k3 with rfl | k3 <;> omega⟩, by rw [k5.blk _ (by omega) (by omega)]; exact hr7, by omega, Cu.le (hc7.chg k5 (by omega) (by omega)) (by omega), Chg.above hch7 k5 (by omega), rfl⟩
  ·intro z hz; rcases List.mem_append.1 hz with hz | hz
   ·exact hlr z hz
   ·simp at hz; omega
  ·intro z hz; rcases List.mem_append.1 hz with hz | hz
   ·exact hhr z hz
   ·simp at hz; omega
 refine B8 ?_; simp +decide only [sQ, reduceIte]; have hin : i = n := by have := of_decide_eq_false hlt; omega
 refine A0 ?_; simp only [sS]; obtain rfl : n = i := hin.symm; have hnH0 := hch.next; refine (A3o lim k v w low high H' (by omega) hv.sl hw.sl (by omega) (by omega) (by omega) (fun y hy => by have := hlr y hy; omega) (fun y hy => by have := hhr y hy; omega)).mono ?_; rintro _ H1 ⟨hR, hx1⟩; have hn1 := hx1.next; have hr21 : H1.blk H.next = some z3 := by rw [hx1.blk _ (by omega)]; exact hr2
 have hc1 := hcu.of_ext hx1; have hch1 := hch.more hx1; obtain ⟨nl1, nl2⟩ := A68 k low high; rcases hR with ⟨_, rfl⟩ | ⟨_, s1, t1, b1, c1, rfl, hb1, hc1', hne, hv1, hw1⟩
 ·have st9 : C8 lim (H1.alloc z3) 3 (.pointer (some ⟨H1.next, 0, none⟩)) (.agg #[.int .i64 0, .slice none 0 0, .slice none 0 0]) = some (undef, (H1.alloc z3).put H1.next z3) := L5 (by omega) (A6 _ _); simp only [sS, st9, d8]; have hx9 := Ext.alloc H1 z3; have hn9 : (H1.alloc z3).next = H1.next + 1 := rfl; generalize H1.alloc z3 = H9 at hx9 hn9 ⊢; have hr29 : H9.blk H.next = some z3 := by rw [hx9.blk _ (by omega)]; exact hr21
  have hc9 := hc1.of_ext hx9; have hch9 := hch1.more hx9; clear hw hv hbc hx1 hlr hhr nl1 nl2 hr21 hc1 hch1 hcu hch hr2; refine D7 true ?_ (fun _ => ?_) (fun hg => absurd hg (by decide))
  ·simp only [sS]; simp
  refine A0 ?_; simp only [sS]; refine A7 ?_; refine B9 (fun j e' H' => ∃ (i2 : Nat) (lo hi : List Int) (b c : Nat) (v2 w2' : Value), i2 + j = n ∧ lo.length = i2 ∧ hi.length = i2 ∧ C0 H' b v2 lo ∧ C0 H' c w2' hi ∧ H9.next ≤ b ∧ H9.next ≤ c ∧ (i2 = 0 ∧ w2' = .slice none 0 0 ∨ b < H'.next ∧ c < H'.next ∧ b ≠ c) ∧ H'.blk H.next = some z3 ∧ H9.next ≤ H'.next ∧ Cu B H' q s (m + 100) ∧ Chg q H H' ∧ e' = [Ptr q, .int .i64 n, Ptr H.next, .int .i64 k, .int .i64 (8 * P), v, w, x7, x8, Ptr H1.next, .bool false, v2, w2']) n ⟨0, [], [], H9.next, H9.next + 1, _, _, by omega, rfl, rfl, Vec.nil _ _ _, Vec.nil _ _ _, Nat.le_refl _, by omega, .inl ⟨rfl, rfl⟩, hr29, Nat.le_refl _, hc9.le (by omega), hch9, rfl⟩ ?_; clear hr29 hc9 hch9; rintro j2 e' H' ⟨i2, lo, hi, b, c, v2, w2', hij2, hlo, hhi2, hv2, hw2, hb, hcc, hbc, hr2, hnH2, hcu, hch, rfl⟩; have hlen2 : O6 v2 = some (.int .i64 i2) := by have := hv2.lenV; rw [hlo] at this; simpa using this
  refine A9 ?_; simp only [sS, hlen2]; refine C4.split (fun hlt2 => ?_) (fun hlt2 => ?_)
  ·have hlt2' : i2 < n := by have := of_decide_eq_true hlt2; omega
   refine A2 ?_; simp +decide only [sQ]; refine A8 ?_; obtain ⟨v3, H7, b', g1, g2, g3, g4, g5⟩ := C0.push (lim := lim) hv2 0 (by omega) (by omega); have hn7 := g5.next; refine A0 ?_; simp only [sS, Q9, g1]; have hb' : H9.next ≤ b' := by rcases g3 with rfl | g3 <;> omega
   obtain ⟨c0, hw0, hc0, hcb0, hcn0⟩ : ∃ c0, C0 H7 c0 w2' hi ∧ H9.next ≤ c0 ∧ c0 ≠ b' ∧ (c0 < H7.next ∨ H7.next < c0) := by
    rcases hbc with ⟨hi0, rfl⟩ | ⟨hb1, hc1', hbc1⟩
    ·have : hi = [] := List.length_eq_zero_iff.1 (by omega); subst this; exact ⟨H7.next + 5, Vec.nil _ _ _, by omega, by omega, .inr (by omega)⟩
    ·refine ⟨c, Vec.chg hw2 g5 (by omega), hcc, ?_, .inl (by omega)⟩; rcases g3 with rfl | g3 <;> omega
   obtain ⟨w3, H8, c', k1, k2, k3, k4, k5⟩ := C0.push (lim := lim) hw0 1 (by omega) (by omega); have hn8 := k5.next; refine A4 ?_; simp only [sS, Q9, k1]; simp +decide only [sQ]; refine C6.mk (j2 - 1) (by omega) ⟨i2 + 1, lo ++ [0], hi ++ [1], b', c', v3, w3, by omega, by simp; omega, by simp; omega, Vec.chg g2 k5 (by omega), k2, hb', by rcases k3 with rfl | k3 <;> omega, .inr ⟨by omega, k4, by rcases k3 with rfl | k3 <;> omega⟩, ?_, by omega, (hcu.chg g5 (by omega) (by omega)).chg k5 (by omega) (by omega), Chg.above (Chg.above hch g5 (by omega)) k5 (by omega), rfl⟩; rw [k5.blk _ (by omega) (by omega), g5.blk _ (by omega) (by omega)]; exact hr2
  refine B8 ?_; simp +decide only [sQ, reduceIte]; have hin2 : i2 = n := by have := of_decide_eq_false hlt2; omega
  have hv2c := Vec.cellsV hv2; have hw2c := Vec.cellsV hw2; have hff : C9 z3 [(1, 1, v2), (2, 1, w2')] = some [.int .i64 0, v2, w2'] := by simp [C9, hv2c, hw2c]
  have st2 : C8 lim H' 3 (Ptr H.next) (.agg #[.int .i64 0, v2, w2']) = some (undef, H'.put H.next [.int .i64 0, v2, w2']) := L5 (by omega) hr2; refine A0 ?_; simp only [sS, hff, st2]; refine A3 ?_; simp +decide only [sQ]; have l5 : D5 (H'.put H.next [.int .i64 0, v2, w2']) 3 (Ptr H.next) = some (.agg #[.int .i64 0, v2, w2']) := F9 (D3 _ _ _); simp only [sQ, l5]; have hchp := Chg.put H.next H' [.int .i64 0, v2, w2']; rcases hbc with ⟨hi0, rfl⟩ | ⟨hb1, hc1', hbc1⟩
  ·have e1 : hi = [] := List.length_eq_zero_iff.1 (by omega); subst e1; exact ⟨⟨0, v2, _, b, b + 1, lo, [], rfl, by omega, by omega, by omega, Vec.chg hv2 hchp (by omega), Vec.nil _ _ _, by omega, by simp; omega⟩, hcu.chg hchp (by omega) (by omega), Chg.above hch hchp (Nat.le_refl _)⟩
  ·exact ⟨⟨0, v2, w2', b, c, lo, hi, rfl, by omega, by omega, hbc1, Vec.chg hv2 hchp (by omega), Vec.chg hw2 hchp (by omega), by omega, by omega⟩, hcu.chg hchp (by omega) (by omega), Chg.above hch hchp (Nat.le_refl _)⟩
 ·have st9 : C8 lim (H1.alloc z3) 3 (.pointer (some ⟨H1.next, 0, none⟩)) (.agg #[.int .i64 ((G9 k low high).2.1 : Int), s1, t1]) = some (undef, (H1.alloc z3).put H1.next [.int .i64 ((G9 k low high).2.1 : Int), s1, t1]) := L5 (by omega) (A6 _ _); simp only [sS, st9, d8]; have hx9 := Ext.alloc H1 [.int .i64 ((G9 k low high).2.1 : Int), s1, t1]; have hn9 : (H1.alloc [.int .i64 ((G9 k low high).2.1 : Int), s1, t1]).next = H1.next + 1 := rfl; have hb9 : (H1.alloc [.int .i64 ((G9 k low high).2.1 : Int), s1, t1]).blk H1.next = some [.int .i64 ((G9 k low high).2.1 : Int), s1, t1] := A6 _ _; generalize H1.alloc [.int .i64 ((G9 k low high).2.1 : Int), s1, t1] = H9 at hx9 hn9 hb9 ⊢; have hr29 : H9.blk H.next = some z3 := by rw [hx9.blk _ (by omega)]; exact hr21
  have l9 : D5 H9 3 (.pointer (some ⟨H1.next, 0, none⟩)) = some (.agg #[.int .i64 ((G9 k low high).2.1 : Int), s1, t1]) := F9 hb9; have st2 : C8 lim H9 3 (Ptr H.next) (.agg #[.int .i64 ((G9 k low high).2.1 : Int), s1, t1]) = some (undef, H9.put H.next [.int .i64 ((G9 k low high).2.1 : Int), s1, t1]) := L5 (by omega) hr29; refine D7 false ?_ (fun hg => absurd hg (by decide)) (fun _ => ?_)
  ·simp only [sS]; simp
  refine A2 ?_; simp +decide only [sQ]; refine A0 ?_; simp only [sS, l9, st2]; refine A3 ?_; simp +decide only [sQ]; have l5 : D5 (H9.put H.next [.int .i64 ((G9 k low high).2.1 : Int), s1, t1]) 3 (Ptr H.next) = some (.agg #[.int .i64 ((G9 k low high).2.1 : Int), s1, t1]) := F9 (D3 _ _ _); simp only [sQ, l5]; have hchp := Chg.put H.next H9 [.int .i64 ((G9 k low high).2.1 : Int), s1, t1]; exact ⟨⟨_, s1, t1, b1, c1, _, _, rfl, by omega, by omega, hne, Vec.chg (Vec.ext hv1 hx9) hchp (by omega), Vec.chg (Vec.ext hw1 hx9) hchp (by omega), by rw [← hli]; exact nl1, by rw [← hhi]; exact nl2⟩, Cu.le ((hc1.of_ext hx9).chg hchp (by omega) (by omega)) (by omega), Chg.above (hch1.more hx9) hchp (Nat.le_refl _)⟩
end Go.Proofs.YtmdeppkfboaepaaGreat
namespace Go.Proofs.YtmdeppkfboaepaaGreat
open Go.Ab Ints
theorem A20 (lim q m : Nat) (B : A1) (s : Value) (l : List Int) (n : Nat) (H : A1) (hl : lim ≤ B.next) (hs : SlB B s l) (hc : Cu B H q s m) (hm : m ≤ 2500000000000000000) (hn : n ≤ 3) :
 A5 Tryz.prog lim A0c [Ptr q, .int .i64 n] H fun v H' => D0z H.next H' v n ∧ Cu B H' q s (m + 200) ∧ Chg q H H' := by
 have hqH := hc.lt; have hBq := hc.ge; refine A5y.go rfl ?_; unfold w9; refine A0 ?_; simp only [sS]; have hx := Ext.alloc H z3; have hr2 : (H.alloc z3).blk H.next = some z3 := A6 _ _; have hnA : (H.alloc z3).next = H.next + 1 := rfl; generalize H.alloc z3 = HA at hx hr2 hnA ⊢; have hcA := hc.of_ext hx; have f7 : C9 [.int .i64 0, .int .i64 0, .int .i64 0, .int .i64 0, .int .i64 0] [(0, 1, .int .i64 0), (1, 1, .int .i64 0), (2, 1, .int .i64 1), (3, 1, .int .i64 2), (4, 1, .int .i64 4)] = some (([0, 0, 1, 2, 4] : List Int).map vi) := by simp [C9, C2, F8]
 refine A0 ?_; simp only [sS, I0 f7]; refine (F0 lim q m B s l [0, 0, 1, 2, 4] HA hl hs hcA (by omega) (by simp) (by simp)).mono ?_; rintro _ HB ⟨⟨k, hkm, rfl⟩, hcB, hchB⟩; obtain ⟨k, rfl, hk8⟩ : ∃ k' : Nat, k = k' ∧ k' ≤ 8 := by
  simp at hkm; exact ⟨k.toNat, by omega, by omega⟩
 have hP : (1 : Int) ≤ 2 ^ k ∧ (2 : Int) ^ k ≤ 256 := by
  have h1 := I7 k; have h2 := A38 (k := k) (m := 8) hk8; have e : (2 : Int) ^ 8 = 256 := by decide
  omega
 have pw : ∀ (lim' : Nat) (H' : A1), A5 Tryz.prog lim' Y6 [.int .i64 k] H' fun v H'' => v = .int .i64 (2 ^ k) ∧ H'' = H' := fun lim' H' => Ints.O4 lim' k H' (by omega)
 generalize (2 : Int) ^ k = P at hP pw; simp only [sS]; have w8 : IntKind.i64.wrap (8 * P) = 8 * P := E3 (by omega) (by omega); refine A0 ?_; simp only [sS]; refine (pw _ _).eq ?_; simp only [sS, w8]; refine A0 ?_; simp only [sS]; refine A7 ?_; have hnB := hchB.next; have hr2B := hchB.kept hr2 (by omega) (by omega); have hch0 : Chg q H HB := (Chg.of_ext hx).trans hchB; refine B9 (fun j e' H' => ∃ (i : Nat) (low high : List Int) (b c : Nat) (v w x7 x8 : Value), i + j = n ∧ low.length = i ∧ high.length = i ∧ (∀ y ∈ low, -2048 ≤ y ∧ y ≤ 2048) ∧ (∀ y ∈ high, -7000 ≤ y ∧ y ≤ 7000) ∧ C0 H' b v low ∧ C0 H' c w high ∧ HA.next ≤ b ∧ HA.next ≤ c ∧ (i = 0 ∧ w = .slice none 0 0 ∨ b < H'.next ∧ c < H'.next ∧ b ≠ c) ∧ H'.blk H.next = some z3 ∧ HA.next ≤ H'.next ∧ Cu B H' q s (m + 2 + 24 * i) ∧ Chg q H H' ∧ e' = [Ptr q, .int .i64 n, Ptr H.next, .int .i64 k, .int .i64 (8 * P), v, w, x7, x8, undef, undef]) n ⟨0, [], [], HA.next, HA.next + 1, _, _, _, _, by omega, rfl, rfl, by simp, by simp, Vec.nil _ _ _, Vec.nil _ _ _, Nat.le_refl _, by omega, .inl ⟨rfl, rfl⟩, hr2B, hnB, hcB, hch0, rfl⟩ ?_; clear hr2B hnB hcB hch0 hchB hkm f7 hcA hr2; rintro j e' H' ⟨i, low, high, b, c, v, w, x7, x8, hij, hli, hhi, hlr, hhr, hv, hw, hb, hcc, hbc, hr2, hnH, hcu, hch, rfl⟩; have hlen : O6 v = some (.int .i64 i) := by have := hv.lenV; rw [hli] at this; simpa using this
 have wN : IntKind.i64.wrap (0 - P) = -P := by rw [Int.zero_sub]; exact E3 (by omega) (by omega)
 have w2 : IntKind.i64.wrap (2 * (8 * P)) = 2 * (8 * P) := E3 (by omega) (by omega); have wM : IntKind.i64.wrap (0 - 8 * P) = -(8 * P) := by rw [Int.zero_sub]; exact E3 (by omega) (by omega)
 have w1 : IntKind.i64.wrap (8 * P - 1) = 8 * P - 1 := E3 (by omega) (by omega); have w0 : IntKind.i64.wrap (1 - 8 * P) = 1 - 8 * P := E3 (by omega) (by omega); refine A9 ?_; simp only [sS, hlen]; refine C4.split (fun hlt => ?_) (fun hlt => ?_)
 ·have hlt' : i < n := by have := of_decide_eq_true hlt; omega
  refine A2 ?_; simp +decide only [sQ]; refine A8 ?_; refine A0 ?_; simp only [sS]; refine (pw _ _).eq ?_; simp only [sS, wN, w2]; refine (J3 lim q _ B s l (2 * (8 * P)) H' hl hs hcu (by omega) (by omega)).mono ?_; rintro _ H1 ⟨⟨p1, rfl, hp10, hp11⟩, hc1, hch1⟩; have wp1 : IntKind.i64.wrap (p1 - 8 * P) = p1 - 8 * P := E3 (by omega) (by omega); simp only [sS, wp1]; have f5 : C9 [.int .i64 0, .int .i64 0, .int .i64 0, .int .i64 0, .int .i64 0] [(0, 1, .int .i64 0), (1, 1, .int .i64 (-1)), (2, 1, .int .i64 1), (3, 1, .int .i64 (-P)), (4, 1, .int .i64 (p1 - 8 * P))] = some (([0, -1, 1, -P, p1 - 8 * P] : List Int).map vi) := by simp [C9, C2, F8]
  simp only [sS, I0 f5]; refine (F0 lim q _ B s l [0, -1, 1, -P, p1 - 8 * P] H1 hl hs hc1 (by omega) (by simp) (by simp)).mono ?_; rintro _ H3 ⟨⟨x, hxm, rfl⟩, hc3, hch3⟩; have hxr : -2048 ≤ x ∧ x ≤ 2048 := by
   simp at hxm; omega
  have w2P : IntKind.i64.wrap (2 * P) = 2 * P := E3 (by omega) (by omega); simp only [sS]; refine A0 ?_; simp only [sS]; refine (pw _ _).eq ?_; simp only [sS]; refine (pw _ _).eq ?_; simp only [sS, w2P]; refine (J3 lim q _ B s l (8 * P) H3 hl hs hc3 (by omega) (by omega)).mono ?_; rintro _ H5 ⟨⟨p4, rfl, hp40, hp41⟩, hc5, hch5⟩; have wp4 : IntKind.i64.wrap (1 + p4) = 1 + p4 := E3 (by omega) (by omega); have f6 : C9 [.int .i64 0, .int .i64 0, .int .i64 0, .int .i64 0, .int .i64 0] [(0, 1, .int .i64 1), (1, 1, .int .i64 1), (2, 1, .int .i64 P), (3, 1, .int .i64 (2 * P)), (4, 1, .int .i64 (1 + p4))] = some (([1, 1, P, 2 * P, 1 + p4] : List Int).map vi) := by simp [C9, C2, F8]
  simp only [sS, wp4, I0 f6]; refine (F0 lim q _ B s l [1, 1, P, 2 * P, 1 + p4] H5 hl hs hc5 (by omega) (by simp) (by simp)).mono ?_; rintro _ H6 ⟨⟨y, hym, rfl⟩, hc6, hch6⟩; have hyr : 0 ≤ y ∧ y ≤ 4096 := by
   simp at hym; omega
  have wy : IntKind.i64.wrap (x + y) = x + y := E3 (by omega) (by omega); simp only [sS, wy]; have hch06 := hch1.trans (hch3.trans (hch5.trans hch6)); have hn6 := hch06.next; have hv6 : C0 H6 b v low := Vec.chg hv hch06 (by omega); have hr6 := hch06.kept hr2 (by omega) (by omega); refine A0 ?_; simp only [sS, wM, w1]; refine (A66 lim x (8 * P - 1) (-2048) 2048 H6 (by omega) (by omega)).mono ?_; rintro _ HH ⟨⟨e1, rfl, he10, he11⟩, hh⟩; subst hh; simp only [sS]; refine (A9v lim (-(8 * P)) e1 (-2048) 2048 HH (by omega) (by omega)).mono ?_; rintro _ HI ⟨⟨e2, rfl, he20, he21⟩, hh⟩; subst hh; simp only [sS]; obtain ⟨v', H7, b', g1, g2, g3, g4, g5⟩ := C0.push (lim := lim) hv6 e2 (by omega) (by omega); have hn7 := g5.next; refine A0 ?_; simp only [sS, Q9, g1]; have hc7 := hc6.chg g5 (by omega) (by omega); have hch7 := Chg.above (hch.trans hch06) g5 (by omega); have hr7 : H7.blk H.next = some z3 := by rw [g5.blk _ (by omega) (by omega)]; exact hr6
  have hb' : HA.next ≤ b' := by rcases g3 with rfl | g3 <;> omega
  refine A4 ?_; have we2 : IntKind.i64.wrap (e2 + 1) = e2 + 1 := E3 (by omega) (by omega); simp only [sS, we2]; refine (A66 lim (x + y) (8 * P) (-2048) 6145 H7 (by omega) (by omega)).mono ?_; rintro _ HH ⟨⟨e3, rfl, he30, he31⟩, hh⟩; subst hh; simp only [sS]; refine (A9v lim (e2 + 1) e3 (-2048) 6145 HH (by omega) (by omega)).mono ?_; rintro _ HI ⟨⟨e4, rfl, he40, he41⟩, hh⟩; subst hh; have hlb : b' < HI.next := g4; obtain ⟨c0, hw0, hc0, hcb0, hcn0⟩ : ∃ c0, C0 HI c0 w high ∧ HA.next ≤ c0 ∧ c0 ≠ b' ∧ (c0 < HI.next ∨ HI.next < c0) := by
   rcases hbc with ⟨hi0, rfl⟩ | ⟨hb1, hc1', hbc1⟩
   ·have : high = [] := List.length_eq_zero_iff.1 (by omega); subst this; exact ⟨HI.next + 5, Vec.nil _ _ _, by omega, by omega, .inr (by omega)⟩
   ·refine ⟨c, Vec.chg (Vec.chg hw hch06 (by omega)) g5 (by omega), hcc, ?_, .inl (by omega)⟩; rcases g3 with rfl | g3 <;> omega
  obtain ⟨w', H8, c', k1, k2, k3, k4, k5⟩ := C0.push (lim := lim) hw0 e4 (by omega) (by omega); have hn8 := k5.next; simp only [sS, Q9, k1]; simp +decide only [sQ]; refine C6.mk (j - 1) (by omega) ⟨i + 1, low ++ [e2], high ++ [e4], b', c', v', w', _, _, by omega, by simp; omega, by simp; omega, ?_, ?_, Vec.chg g2 k5 (by omega), k2, hb', by rcases k3 with rfl | k3 <;> omega, .inr ⟨by omega, k4, by rcases k3 with rfl | k3 <;> omega⟩, by rw [k5.blk _ (by omega) (by omega)]; exact hr7, by omega, Cu.le (hc7.chg k5 (by omega) (by omega)) (by omega), Chg.above hch7 k5 (by omega), rfl⟩
  ·intro z hz; rcases List.mem_append.1 hz with hz | hz
   ·exact hlr z hz
   ·simp at hz; omega
  ·intro z hz; rcases List.mem_append.1 hz with hz | hz
   ·exact hhr z hz
   ·simp at hz; omega
 refine B8 ?_; simp +decide only [sQ, reduceIte]; have hin : i = n := by have := of_decide_eq_false hlt; omega
 refine A0 ?_; simp only [sS]; obtain rfl : n = i := hin.symm; have hnH0 := hch.next; refine (A3o lim k v w low high H' (by omega) hv.sl hw.sl (by omega) (by omega) (by omega) (fun y hy => by have := hlr y hy; omega) (fun y hy => by have := hhr y hy; omega)).mono ?_; rintro _ H1 ⟨hR, hx1⟩; have hn1 := hx1.next; have hr21 : H1.blk H.next = some z3 := by rw [hx1.blk _ (by omega)]; exact hr2
 have hc1 := hcu.of_ext hx1; have hch1 := hch.more hx1; obtain ⟨nl1, nl2⟩ := A68 k low high; rcases hR with ⟨_, rfl⟩ | ⟨_, s1, t1, b1, c1, rfl, hb1, hc1', hne, hv1, hw1⟩
 ·have st9 : C8 lim (H1.alloc z3) 3 (.pointer (some ⟨H1.next, 0, none⟩)) (.agg #[.int .i64 0, .slice none 0 0, .slice none 0 0]) = some (undef, (H1.alloc z3).put H1.next z3) := L5 (by omega) (A6 _ _); simp only [sS, st9, d8]; have hx9 := Ext.alloc H1 z3; have hn9 : (H1.alloc z3).next = H1.next + 1 := rfl; generalize H1.alloc z3 = H9 at hx9 hn9 ⊢; have hr29 : H9.blk H.next = some z3 := by rw [hx9.blk _ (by omega)]; exact hr21
  have hc9 := hc1.of_ext hx9; have hch9 := hch1.more hx9; refine D7 true ?_ (fun _ => ?_) (fun hg => absurd hg (by decide))
  ·simp only [sS]; simp
  refine A0 ?_; simp only [sS]; refine (D0h lim q (m + 74) B s l n H9 hl hs (hc9.le (by omega)) (by omega) hn).mono ?_; rintro _ HQ ⟨⟨kq, sq, tq, bq, cq, lq, hq', rfl, q1, q2, q3, q4, q5, q6, q7⟩, hcQ, hchQ⟩; have hnQ := hchQ.next; have hrQ : HQ.blk H.next = some z3 := hchQ.kept hr29 (by omega) (by omega); have stQ : C8 lim HQ 3 (Ptr H.next) (.agg #[.int .i64 kq, sq, tq]) = some (undef, HQ.put H.next [.int .i64 kq, sq, tq]) := L5 (by omega) hrQ; simp only [sS, stQ]; refine A3 ?_; simp +decide only [sQ]; have l5 : D5 (HQ.put H.next [.int .i64 kq, sq, tq]) 3 (Ptr H.next) = some (.agg #[.int .i64 kq, sq, tq]) := F9 (D3 _ _ _); simp only [sQ, l5]; have hchp := Chg.put H.next HQ [.int .i64 kq, sq, tq]; exact ⟨⟨kq, sq, tq, bq, cq, lq, hq', rfl, by omega, by omega, q3, Vec.chg q4 hchp (by omega), Vec.chg q5 hchp (by omega), q6, q7⟩, Cu.le (hcQ.chg hchp (by omega) (by omega)) (by omega), Chg.above (hch9.trans hchQ) hchp (Nat.le_refl _)⟩
 ·have st9 : C8 lim (H1.alloc z3) 3 (.pointer (some ⟨H1.next, 0, none⟩)) (.agg #[.int .i64 ((G9 k low high).2.1 : Int), s1, t1]) = some (undef, (H1.alloc z3).put H1.next [.int .i64 ((G9 k low high).2.1 : Int), s1, t1]) := L5 (by omega) (A6 _ _); simp only [sS, st9, d8]; have hx9 := Ext.alloc H1 [.int .i64 ((G9 k low high).2.1 : Int), s1, t1]; have hn9 : (H1.alloc [.int .i64 ((G9 k low high).2.1 : Int), s1, t1]).next = H1.next + 1 := rfl; have hb9 : (H1.alloc [.int .i64 ((G9 k low high).2.1 : Int), s1, t1]).blk H1.next = some [.int .i64 ((G9 k low high).2.1 : Int), s1, t1] := A6 _ _; generalize H1.alloc [.int .i64 ((G9 k low high).2.1 : Int), s1, t1] = H9 at hx9 hn9 hb9 ⊢; have hr29 : H9.blk H.next = some z3 := by rw [hx9.blk _ (by omega)]; exact hr21
  have l9 : D5 H9 3 (.pointer (some ⟨H1.next, 0, none⟩)) = some (.agg #[.int .i64 ((G9 k low high).2.1 : Int), s1, t1]) := F9 hb9; have st2 : C8 lim H9 3 (Ptr H.next) (.agg #[.int .i64 ((G9 k low high).2.1 : Int), s1, t1]) = some (undef, H9.put H.next [.int .i64 ((G9 k low high).2.1 : Int), s1, t1]) := L5 (by omega) hr29; refine D7 false ?_ (fun hg => absurd hg (by decide)) (fun _ => ?_)
  ·simp only [sS]; simp
  refine A2 ?_; simp +decide only [sQ]; refine A0 ?_; simp only [sS, l9, st2]; refine A3 ?_; simp +decide only [sQ]; have l5 : D5 (H9.put H.next [.int .i64 ((G9 k low high).2.1 : Int), s1, t1]) 3 (Ptr H.next) = some (.agg #[.int .i64 ((G9 k low high).2.1 : Int), s1, t1]) := F9 (D3 _ _ _); simp only [sQ, l5]; have hchp := Chg.put H.next H9 [.int .i64 ((G9 k low high).2.1 : Int), s1, t1]; exact ⟨⟨_, s1, t1, b1, c1, _, _, rfl, by omega, by omega, hne, Vec.chg (Vec.ext hv1 hx9) hchp (by omega), Vec.chg (Vec.ext hw1 hx9) hchp (by omega), by rw [← hli]; exact nl1, by rw [← hhi]; exact nl2⟩, Cu.le ((hc1.of_ext hx9).chg hchp (by omega) (by omega)) (by omega), Chg.above (hch1.more hx9) hchp (Nat.le_refl _)⟩
end Go.Proofs.YtmdeppkfboaepaaGreat
namespace Go.Proofs.YtmdeppkfboaepaaGreat
open Go.Ab Ints
theorem B5d (H : A1) (t : Tm) : E0 H 1 z4 [(0, 4, .agg (tc t).toArray)] = some (.slice (some ⟨H.next, 0, some 0⟩) 1 1, H.alloc (tc t)) := C1r H t
theorem C4v {lim : Nat} {H : A1} {b : Nat} {v : Value} {p : List Tm} (h : G8 H b v p) (t : Tm) (hl : lim ≤ b) (hn : p.length ≤ 10000) :
 ∃ v' H' b', E4 lim (H.alloc (tc t)) 4 32 v (.slice (some ⟨H.next, 0, some 0⟩) 1 1) = some (v', H') ∧ G8 H' b' v' (p ++ [t]) ∧ (b' = b ∨ H.next ≤ b' ∧ b' ≤ H'.next) ∧ Chg b H H' := by
 have hx := Ext.alloc H (tc t); have hvt : G8 (H.alloc (tc t)) H.next (.slice (some ⟨H.next, 0, some 0⟩) 1 1) [t] := Vec.lit (by simp [tc]); obtain ⟨v', H', b', h1, h2, h3, h4⟩ := B5h (lim := lim) (G8.ext h hx) hvt.sl hl (by simp; omega); have hnx := hx.next; exact ⟨v', H', b', h1, h2, h3.imp id fun h => by omega, (Chg.of_ext hx).trans h4⟩
theorem B51 (lim q m : Nat) (B : A1) (s : Value) (l : List Int) (n : Nat) (H : A1) (hl : lim ≤ B.next) (hs : SlB B s l) (hc : Cu B H q s m) (hm : m ≤ 2700000000000000000) (hn : n ≤ 4) :
 A5 Tryz.prog lim A6s [Ptr q, .int .i64 n] H fun v H' => (∃ p b, H.next ≤ b ∧ b ≤ H'.next ∧ G8 H' b v p ∧ p.length ≤ 1000) ∧ Cu B H' q s (m + 1400) ∧ Chg q H H' := by
 have hqH := hc.lt; have hBq := hc.ge; refine A5e.go rfl ?_; unfold m8; refine A0 ?_; simp only [sS]; refine A0 ?_; simp only [sS]; refine (A9u lim q m B s l n H hl hs hc (by omega) hn).mono ?_; rintro v H1 ⟨⟨p, b, hb1, hb2, hv, hgp⟩, hc1, hch1⟩; obtain ⟨p20, _⟩ := A60 hgp; have hn1 := hch1.next; simp only [sS]; refine C7 (A0 ?_); simp only [sS]; refine (J3 lim q (m + 600) B s l 40 H1 hl hs hc1 (by omega) (by omega)).mono ?_; rintro _ H2 ⟨⟨k, rfl, hk0, hk1⟩, hc2, hch2⟩; have hn2 := hch2.next; have hv2 : G8 H2 b v p := Vec.chg hv hch2 (by omega); have hch02 := hch1.trans hch2; simp only [sS]; refine N9 (fun e' H' => ∃ (p' : List Tm) (b' : Nat) (v' x4 x5 x6 : Value), G8 H' b' v' p' ∧ H.next ≤ b' ∧ b' ≤ H'.next ∧ p'.length ≤ 1000 ∧ Cu B H' q s (m + 1400) ∧ Chg q H H' ∧ e' = [Ptr q, .int .i64 n, .slice none 0 0, v', x4, x5, x6, .int .i64 k]) ?_ ?_
 ·refine A8 ?_; refine D0 (k == 0) ?_ (fun hg => ?_) (fun hg => ?_)
  ·simp only [sS]; simp
  ·have f2 : C9 [.int .i64 0, .int .i64 0, .int .i64 0, .int .i64 0] [(0, 1, .int .i64 0), (1, 1, .int .i64 1), (2, 1, .int .i64 1001), (3, 1, .int .i64 (-1001))] = some (([0, 1, 1001, -1001] : List Int).map vi) := by simp [C9, C2, F8]
   refine A4 ?_; simp only [sS, I0 f2]; refine (F0 lim q (m + 602) B s l [0, 1, 1001, -1001] H2 hl hs hc2 (by omega) (by simp) (by simp)).mono ?_; rintro _ H3 ⟨⟨c, _, rfl⟩, hc3, hch3⟩; have hn3 := hch3.next; have hv3 : G8 H3 b v p := Vec.chg hv2 hch3 (by omega); have hf : C9 z4 [(0, 1, .int .i64 c), (1, 1, .int .i64 4)] = some (tc ⟨c, 4, 0, 0⟩) := by simp [C9, C2, tc]
   obtain ⟨v', H4, b', g1, g2, g3, g4⟩ := C4v (lim := lim) hv3 ⟨c, 4, 0, 0⟩ (by omega) (by omega); have hn4 := g4.next; simp only [sS, hf, B5d, g1]; simp +decide only [sQ]; exact ⟨p ++ [_], b', v', _, _, _, g2, by omega, by omega, by simp; omega, Cu.le (hc3.chg g4 (by omega) (by omega)) (by omega), Chg.above (hch02.trans hch3) g4 hb1, rfl⟩
  refine D0 (k == 1) ?_ (fun hg => ?_) (fun hg => ?_)
  ·simp only [sS]; simp
  ·have f2 : C9 [.int .i64 0, .int .i64 0, .int .i64 0] [(0, 1, .int .i64 5), (1, 1, .int .i64 (-1)), (2, 1, .int .i64 4611686018427387904)] = some (([5, -1, 4611686018427387904] : List Int).map vi) := by simp [C9, C2, F8]
   have f3 : C9 [.int .i64 0, .int .i64 0, .int .i64 0] [(0, 1, .int .i64 0), (1, 1, .int .i64 (-1)), (2, 1, .int .i64 4611686018427387904)] = some (([0, -1, 4611686018427387904] : List Int).map vi) := by simp [C9, C2, F8]
   refine A4 ?_; simp only [sS, I0 f2]; refine (F0 lim q (m + 602) B s l [5, -1, 4611686018427387904] H2 hl hs hc2 (by omega) (by simp) (by simp)).mono ?_; rintro _ H3 ⟨⟨c, _, rfl⟩, hc3, hch3⟩; have hn3 := hch3.next; have hv3 : G8 H3 b v p := Vec.chg hv2 hch3 (by omega); simp only [sS, I0 f3]; refine (F0 lim q (m + 602 + 2) B s l [0, -1, 4611686018427387904] H3 hl hs hc3 (by omega) (by simp) (by simp)).mono ?_; rintro _ H4 ⟨⟨d, _, rfl⟩, hc4, hch4⟩; have hn4 := hch4.next; have hv4 : G8 H4 b v p := Vec.chg hv3 hch4 (by omega); have hf : C9 z4 [(0, 1, .int .i64 1), (1, 1, .int .i64 c), (2, 1, .int .i64 d)] = some (tc ⟨1, c, d, 0⟩) := by simp [C9, C2, tc]
   obtain ⟨v', H5, b', g1, g2, g3, g4⟩ := C4v (lim := lim) hv4 ⟨1, c, d, 0⟩ (by omega) (by omega); have hn5 := g4.next; simp only [sS, hf, B5d, g1]; simp +decide only [sQ]; exact ⟨p ++ [_], b', v', _, _, _, g2, by omega, by omega, by simp; omega, Cu.le (hc4.chg g4 (by omega) (by omega)) (by omega), Chg.above (hch02.trans (hch3.trans hch4)) g4 hb1, rfl⟩
  refine D0 (k == 2) ?_ (fun hg => ?_) (fun hg => ?_)
  ·simp only [sS]; simp
  ·obtain ⟨v', H3, b', g1, g2, g3, g4⟩ := B5h (lim := lim) hv2 hv2.sl (by omega) (by omega); have hn3 := g4.next; refine A4 ?_; simp only [sS, g1]; simp +decide only [sQ]; exact ⟨p ++ p, b', v', _, _, _, g2, by omega, by omega, by simp; omega, Cu.le (hc2.chg g4 (by omega) (by omega)) (by omega), Chg.above hch02 g4 hb1, rfl⟩
  refine D0 (k == 3) ?_ (fun hg => ?_) (fun hg => ?_)
  ·simp only [sS]; simp
  ·clear hv hv2 hgp p20; refine A0 ?_; simp only [sS]; refine A0 ?_; simp only [sS]; refine A8 ?_; refine B9 (fun j e' H' => ∃ (x b : Nat) (v x5 x6 : Value) (p : List Tm), x + j = 5 ∧ p.length ≤ 1000 ∧ G8 H' b v p ∧ H.next ≤ b ∧ b ≤ H'.next ∧ Cu B H' q s (m + 602 + 100 * x) ∧ Chg q H H' ∧ e' = [Ptr q, .int .i64 n, .slice none 0 0, v, .int .i64 x, x5, x6, .int .i64 k]) 5 ⟨0, H.next, _, _, _, [], by omega, by simp, Vec.nil _ _ _, Nat.le_refl _, by omega, hc2, hch02, rfl⟩ ?_; clear hc2 hch02 hb1 hb2 hn1 hn2 hch1 hch2 hc1; rintro j e' H2 ⟨x, b, v, x5, x6, p, hxj, hpl, hv, hb1, hb2, hcu, hch, rfl⟩; refine A9 ?_; simp only [sS]; refine C4.split (fun hlt => ?_) (fun hlt => ?_)
   ·have hx4 : x ≤ 4 := by have := of_decide_eq_true hlt; omega
    refine A2 ?_; simp +decide only [sQ]; refine A7 ?_; refine A0 ?_; simp only [sS]; refine A8 ?_; refine B9 (fun j2 e' H' => ∃ (y b : Nat) (v x6 : Value) (p : List Tm), x + y + j2 = 5 ∧ p.length ≤ 1000 ∧ G8 H' b v p ∧ H.next ≤ b ∧ b ≤ H'.next ∧ Cu B H' q s (m + 602 + 100 * x + 15 * y) ∧ Chg q H H' ∧ e' = [Ptr q, .int .i64 n, .slice none 0 0, v, .int .i64 x, .int .i64 y, x6, .int .i64 k]) (5 - x) ⟨0, b, _, _, p, by omega, hpl, hv, hb1, hb2, hcu, hch, rfl⟩ ?_; clear hcu hch hb1 hb2 hv hpl; rintro j2 e' H2 ⟨y, b, v, x6, p, hyj, hpl, hv, hb1, hb2, hcu, hch, rfl⟩; refine A9 ?_; simp only [sS, C71 (i := x) (j := y) (by omega)]; refine C4.split (fun hlt2 => ?_) (fun hlt2 => ?_)
    ·have hy4 : x + y ≤ 4 := by have := of_decide_eq_true hlt2; omega
     refine A2 ?_; simp +decide only [sQ]; refine A7 ?_; refine A0 ?_; simp only [sS]; refine A8 ?_; refine B9 (fun j3 e' H' => ∃ (z b : Nat) (v : Value) (p : List Tm), x + y + z + j3 = 5 ∧ p.length ≤ 1000 ∧ G8 H' b v p ∧ H.next ≤ b ∧ b ≤ H'.next ∧ Cu B H' q s (m + 602 + 100 * x + 15 * y + 2 * z) ∧ Chg q H H' ∧ e' = [Ptr q, .int .i64 n, .slice none 0 0, v, .int .i64 x, .int .i64 y, .int .i64 z, .int .i64 k]) (5 - x - y) ⟨0, b, _, p, by omega, hpl, hv, hb1, hb2, hcu, hch, rfl⟩ ?_; clear hcu hch hb1 hb2 hv hpl; rintro j3 e' H2 ⟨z, b, v, p, hzj, hpl, hv, hb1, hb2, hcu, hch, rfl⟩; have hn2 := hch.next; refine A9 ?_; cases h5 : decide (((x + y + z : Nat) : Int) ≤ 4)
     ·simp only [sS, C71 (i := x) (j := y) (by omega), C71 (i := x + y) (j := z) (by omega), h5]; refine C4.false_ (B8 ?_); simp +decide only [sQ, reduceIte]; refine A4 ?_; simp only [sS, D6 (i := y) (by omega)]; simp +decide only [sQ]; exact C6.mk (j2 - 1) (by omega) ⟨y + 1, b, v, _, p, by omega, hpl, hv, hb1, hb2, hcu.le (by omega), hch, rfl⟩
     ·have hz4 : x + y + z ≤ 4 := by have := of_decide_eq_true h5; omega
      have hlen : O6 v = some (.int .i64 p.length) := hv.lenV; simp only [sS, C71 (i := x) (j := y) (by omega), C71 (i := x + y) (j := z) (by omega), h5, hlen]; refine (J3 lim q (m + 602 + 100 * x + 15 * y + 2 * z) B s l 2 H2 hl hs hcu (by omega) (by omega)).mono ?_; rintro _ H3 ⟨⟨w, rfl, hw0, hw1⟩, hc3, hch3⟩; have hn3 := hch3.next; have hv3 : G8 H3 b v p := Vec.chg hv hch3 (by omega); have ww : IntKind.i64.wrap (20 + w) = 20 + w := E3 (by omega) (by omega); simp only [sS, ww]; refine C4.split (fun hlt4 => ?_) (fun hlt4 => ?_)
      ·have hpl2 : p.length ≤ 21 := by have := of_decide_eq_true hlt4; omega
       refine A2 ?_; simp +decide only [sQ]; have hf : C9 z4 [(0, 1, .int .i64 1), (1, 1, .int .i64 x), (2, 1, .int .i64 y), (3, 1, .int .i64 z)] = some (tc ⟨1, x, y, z⟩) := by simp [C9, C2, tc]
       obtain ⟨v', H5, b', g1, g2, g3, g4⟩ := C4v (lim := lim) hv3 ⟨1, x, y, z⟩ (by omega) (by omega); have hn5 := g4.next; refine A8 ?_; refine A4 ?_; simp only [sS, hf, B5d, g1]; simp +decide only [sQ]; refine A4 ?_; simp only [sS, D6 (i := z) (by omega)]; simp +decide only [sQ]; exact C6.mk (j3 - 1) (by omega) ⟨z + 1, b', v', p ++ [_], by omega, by simp; omega, g2, by omega, by omega, Cu.le (hc3.chg g4 (by omega) (by omega)) (by omega), Chg.above (hch.trans hch3) g4 hb1, rfl⟩
      ·refine B8 ?_; simp +decide only [sQ, reduceIte]; refine A4 ?_; simp only [sS, D6 (i := y) (by omega)]; simp +decide only [sQ]; exact C6.mk (j2 - 1) (by omega) ⟨y + 1, b, v, _, p, by omega, hpl, hv3, hb1, by omega, hc3.le (by omega), hch.trans hch3, rfl⟩
    ·refine B8 ?_; simp +decide only [sQ, reduceIte]; refine A4 ?_; simp only [sS, D6 (i := x) (by omega)]; simp +decide only [sQ]; exact C6.mk (j - 1) (by omega) ⟨x + 1, b, v, _, _, p, by omega, hpl, hv, hb1, hb2, hcu.le (by omega), hch, rfl⟩
   ·refine B8 ?_; simp +decide only [sQ, reduceIte]; exact ⟨p, b, v, _, _, _, hv, hb1, hb2, hpl, hcu.le (by omega), hch, rfl⟩
  refine A2 ?_; simp +decide only [sQ]; exact ⟨p, b, v, _, _, _, hv2, hb1, by omega, by omega, hc2.le (by omega), hch02, rfl⟩
 rintro e' H' ⟨p', b', v', x4, x5, x6, g1, g2, g3, g4, g5, g6, rfl⟩; refine A0 ?_; simp only [sS]; refine A3 ?_; simp +decide only [sQ]; exact ⟨⟨p', b', g2, g3, g1, g4⟩, g5, g6⟩
end Go.Proofs.YtmdeppkfboaepaaGreat
namespace Go.Proofs.YtmdeppkfboaepaaGreat
open Go.Ab Ints
theorem SlB.cellsV {H : A1} {s : Value} {l : List Int} (h : SlB H s l) : Go.Ab.C2 s = some [s] := Sl.cellsV h.sl
end Go.Proofs.YtmdeppkfboaepaaGreat
