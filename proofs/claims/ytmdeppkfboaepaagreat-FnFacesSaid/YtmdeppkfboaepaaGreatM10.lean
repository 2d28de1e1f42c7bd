/- Parts of the proof of a statement of this seat: contracts of functions that the law calls, or the law's own row; no condition. -/
import Derived.Test.YtmdeppkfboaepaaGreatM9
set_option maxHeartbeats 8000000
set_option linter.unusedSimpArgs false
set_option linter.unusedVariables false
namespace Go.Proofs.YtmdeppkfboaepaaGreat
open Go.Ab Ints
structure W4 (H : A1) (lo b : Nat) (v : Value) (ps : List (Value × List (Int × Nat))) : Prop where
 vec : Vec H b v ps.length 1 (ps.map (·.1))
 low : lo ≤ b
 hi : (ps = [] ∧ v = .slice none 0 0) ∨ (ps ≠ [] ∧ b < H.next)
 el : ∀ x ∈ ps, ∃ c, lo ≤ c ∧ c < H.next ∧ c ≠ b ∧ C1p H c x.1 x.2
theorem W4.nil' (H : A1) (lo : Nat) : W4 H lo lo (.slice none 0 0) [] := ⟨Vec.nil _ _ _, Nat.le_refl _, .inl ⟨rfl, rfl⟩, by simp⟩
theorem W4.ext {H H' : A1} {lo b : Nat} {v : Value} {ps : List (Value × List (Int × Nat))} (h : W4 H lo b v ps) (hx : Ext H H') : W4 H' lo b v ps := by
 have hn := hx.next; exact ⟨h.vec.ext hx, h.low, h.hi.imp id (fun h => ⟨h.1, by omega⟩), fun x hm => by obtain ⟨c, h1, h2, h3, h4⟩ := h.el x hm; exact ⟨c, h1, by omega, h3, h4.ext hx⟩⟩
theorem W4.push {lim : Nat} {H0 H H2 : A1} {lo b c : Nat} {v s : Value} {ps : List (Value × List (Int × Nat))} {p : List (Int × Nat)} (h : W4 H lo b v ps) (hlim : lim ≤ lo) (hx0 : Ext H0 H) (hlo : H0.next ≤ lo) (hloH : lo ≤ H.next) (hx : Ext H H2)
 (hc1 : H.next ≤ c) (hc2 : c < H2.next) (hp : C1p H2 c s p) (hn : ps.length ≤ 1000000) :
 ∃ v' H3 b', E4 lim (H2.alloc [s]) 1 24 v (.slice (some ⟨H2.next, 0, some 0⟩) 1 1) = some (v', H3) ∧ W4 H3 lo b' v' (ps ++ [(s, p)]) ∧ Ext H0 H3 ∧ H2.next ≤ H3.next ∧ (∀ c', c' < H.next → (ps ≠ [] → c' ≠ b) → H3.blk c' = H.blk c') ∧ (ps ≠ [] ∧ b' = b ∨ H2.next < b') := by
 have hnx := hx.next; obtain ⟨b0, hv0, hb0, hbc, hbl, hbn⟩ : ∃ b0, Vec H2 b0 v ps.length 1 (ps.map (·.1)) ∧ lo ≤ b0 ∧ b0 ≠ c ∧ (ps ≠ [] ∧ b0 = b ∧ b0 < H.next ∨ H2.next < b0) ∧ ∀ x ∈ ps, ∃ c', lo ≤ c' ∧ c' < H.next ∧ c' ≠ b0 ∧ C1p H c' x.1 x.2 := by
  by_cases hp0 : ps = []
  ·subst hp0; have hv : v = .slice none 0 0 := by
    rcases h.hi with ⟨_, h7⟩ | ⟨h7, _⟩
    ·exact h7
    ·exact absurd rfl h7
   subst hv; exact ⟨H2.next + 1, Vec.nil _ _ _, by omega, by omega, .inr (by omega), by simp⟩
  ·rcases h.hi with ⟨h3, _⟩ | ⟨_, h4⟩
   ·exact absurd h3 hp0
   ·exact ⟨b, h.vec.ext hx, h.low, by omega, .inl ⟨hp0, rfl, h4⟩, h.el⟩
 obtain ⟨v', H3, b', g1, g2, g3, g4, g5, g6⟩ := n5 hv0 (lim := lim) s (by omega) (bytes := 24) (by omega); refine ⟨v', H3, b', g1, ⟨by simpa using g2, by omega, .inr ⟨by simp, g4⟩, ?_⟩, Chg.ext (hx0.trans hx) g5 (by omega), g5.next, ?_, ?_⟩
 ·intro x hxm; have hn3 := g5.next; rcases List.mem_append.1 hxm with hm | hm
  ·obtain ⟨c', k1, k2, k3, k4⟩ := hbn x hm; exact ⟨c', k1, by omega, by omega, Vec.chg (k4.ext hx) g5 k3⟩
  ·simp at hm; subst hm; exact ⟨c, by omega, by omega, by omega, Vec.chg hp g5 (fun e => hbc e.symm)⟩
 ·intro c' h1 h2; rw [g5.blk c' (by omega) (by rcases hbl with ⟨h3, rfl, _⟩ | h3; exact h2 h3; omega), hx.blk c' h1]
 ·rcases hbl with ⟨h3, rfl, _⟩ | h3
  ·rcases g3 with rfl | g3
   ·exact .inl ⟨h3, rfl⟩
   ·exact .inr g3
  ·right; omega
theorem W4.keep {H H' : A1} {lo b : Nat} {v : Value} {ps : List (Value × List (Int × Nat))} (h : W4 H lo b v ps) (hn : H.next ≤ H'.next) (hk : ∀ c, lo ≤ c → c < H.next → H'.blk c = H.blk c) : W4 H' lo b v ps :=
 ⟨h.vec.keep hn fun hb => hk b h.low hb, h.low, h.hi.imp id (fun h => ⟨h.1, by omega⟩), fun x hm => by
  obtain ⟨c, h1, h2, h3, h4⟩ := h.el x hm; exact ⟨c, h1, by omega, h3, Vec.keep h4 hn fun hc => hk c h1 hc⟩⟩
theorem W4.at {H : A1} {lo b : Nat} {v : Value} {ps : List (Value × List (Int × Nat))} (h : W4 H lo b v ps) {i : Nat} (hi : i < ps.length) :
 ∃ b' o, F1 1 v (.int .i64 i) = some (.pointer (some ⟨b', o, none⟩)) ∧ H.cell b' o = some ps[i].1 ∧ SlQ H ps[i].1 ps[i].2 := by
 obtain ⟨b1, o1, g1, g2, g3⟩ := h.vec.sl.cell .i64 (i := (i : Int)) (by omega) (by omega); obtain ⟨c, _, _, _, k4⟩ := h.el _ (List.getElem_mem hi); refine ⟨b1, o1, g1, ?_, Vec.sl k4⟩; rw [g3]; simp [hi]
theorem W4.lenV {H : A1} {lo b : Nat} {v : Value} {ps : List (Value × List (Int × Nat))} (h : W4 H lo b v ps) : O6 v = some (.int .i64 ps.length) := h.vec.sl.lenV
def crn : List Int → List Int → List (List Int)
 | a :: l, b :: u => (crn l u).map (a :: ·) ++ (crn l u).map (b :: ·)
 | _, _ => [[]]
theorem C07 : ∀ (l u : List Int), u.length = l.length → (crn l u).length = 2 ^ l.length
 | [], [], _ => rfl
 | a :: l, b :: u, h => by
   have := C07 l u (by simpa using h); simp [crn, this, Nat.pow_succ]; omega
theorem B1c : ∀ {l u c : List Int}, u.length = l.length → c ∈ crn l u → c.length = l.length ∧ ∀ j, j < l.length → c.getD j 0 = l.getD j 0 ∨ c.getD j 0 = u.getD j 0
 | [], [], c, _, hc => by
   simp [crn] at hc; subst hc; simp
 | a :: l, b :: u, c, h, hc => by
   simp only [crn, List.mem_append, List.mem_map] at hc; rcases hc with ⟨d, hd, rfl⟩ | ⟨d, hd, rfl⟩
   ·obtain ⟨h1, h2⟩ := B1c (by simpa using h) hd; refine ⟨by simp [h1], fun j hj => ?_⟩; cases j with
    | zero => left; rfl
    | succ j => simpa using h2 j (by simpa using hj)
   ·obtain ⟨h1, h2⟩ := B1c (by simpa using h) hd; refine ⟨by simp [h1], fun j hj => ?_⟩; cases j with
    | zero => right; rfl
    | succ j => simpa using h2 j (by simpa using hj)
abbrev dnl (k : Nat) (c : List Int) : List (Int × Nat) := c.map (E6 · k)
theorem D1q (H : A1) (d : Int × Nat) : E0 H 1 [.int .i64 0, .int .i64 0] [(0, 2, dV d)] = some (.slice (some ⟨H.next, 0, some 0⟩) 1 1, H.alloc [vi d.1, vi (d.2 : Int)]) := by
 simp [E0, C9, C2]
theorem C2j (H : A1) (a b : Int) : E0 H 2 [.int .i64 0, .int .i64 0] [(0, 1, .int .i64 a), (1, 1, .int .i64 b)] = some (.slice (some ⟨H.next, 0, some 0⟩) 2 2, H.alloc [vi a, vi b]) := by
 simp [E0, C9, C2, F8]
theorem C27 (H : A1) (s : Value) (hs : C2 s = some [s]) : E0 H 1 [.slice none 0 0] [(0, 1, s)] = some (.slice (some ⟨H.next, 0, some 0⟩) 1 1, H.alloc [s]) := by
 simp [E0, C9, hs]
theorem D4p {lim : Nat} {H : A1} {s : Value} {l : List (Int × Nat)} (d : Int × Nat) (hs : SlQ H s l) (hl : lim ≤ H.next) (hn : l.length ≤ 1000) :
 ∃ v' H' c, E4 lim (H.alloc [vi d.1, vi (d.2 : Int)]) 2 16 (.slice (some ⟨H.next, 0, some 0⟩) 1 1) s = some (v', H') ∧ C1p H' c v' (d :: l) ∧ H.next ≤ c ∧ c < H'.next ∧ Ext H H' := by
 have hx := Ext.alloc H [vi d.1, vi (d.2 : Int)]; have hv : C1p (H.alloc [vi d.1, vi (d.2 : Int)]) H.next (.slice (some ⟨H.next, 0, some 0⟩) 1 1) [d] := Vec.lit (by simp [pq]); obtain ⟨v', H', b', h1, h2, h3, h4, h5⟩ := Vec.append hv (lim := lim) hl (hs.ext hx) (by decide) (bytes := 16) (by simp; omega); have h2' : C1p H' b' v' (d :: l) := by
  show Vec H' b' v' (d :: l).length 2 (pq (d :: l)); rw [List.length_cons, C55, Nat.add_comm]; simpa [pq] using h2
 exact ⟨v', H', b', h1, h2', by rcases h3 with rfl | ⟨rfl, _⟩; exact Nat.le_refl _; exact Nat.le_succ _, (h2'.blk (by simp)).elim fun _ h => h.2, Chg.ext hx h4 (Nat.le_refl _)⟩
theorem B0x (k n : Nat) (L U : List Int) (hk : k ≤ 8) (hL : L.length = n) (hU : U.length = n) (hn : n ≤ 3) (hsL : ∀ x ∈ L, x.natAbs ≤ 100000) (hsU : ∀ x ∈ U, x.natAbs ≤ 100000) :
 ∀ (f lim : Nat) (v : Value) (side : Nat) (H : A1), side + f = n → lim ≤ H.next → V6 H v k L U →
 A5 Tryz.prog lim B2a [v, .int .i64 side] H fun v' H' => (∃ b ps, W4 H' H.next b v' ps ∧ ps.map (·.2) = (crn (L.drop side) (U.drop side)).map (dnl k)) ∧ Ext H H'
 | f, lim, v, side, H, hf, hl, hv => by
   obtain ⟨ls, us, rfl, hls, hus⟩ := hv; refine A9r.go rfl ?_; unfold A29; refine A0 ?_; simp only [sS, M5, C2]; have hx1 := Ext.alloc H [.int .i64 k, ls, us]; have hb1 : (H.alloc [.int .i64 k, ls, us]).blk H.next = some [.int .i64 k, ls, us] := A6 _ _; have hn1 : (H.alloc [.int .i64 k, ls, us]).next = H.next + 1 := rfl; generalize H.alloc [.int .i64 k, ls, us] = H1 at hx1 hb1 hn1 ⊢; refine D7 (decide (side = n)) ?_ (fun hg => ?_) (fun hg => ?_)
   ·simp only [sS, Nat.zero_add, B7 hb1, hls.lenV, hL]; refine ⟨congrArg _ ?_, trivial, trivial⟩; by_cases h : side = n <;> simp [h]
    omega
   ·have hg' : side = n := of_decide_eq_true hg; refine A0 ?_; simp only [sS, C27 H1 (.slice none 0 0) rfl]; refine A3 ?_; simp +decide only [sQ]; have hxz := Ext.alloc H1 [.slice none 0 0]; refine ⟨⟨H1.next, [(.slice none 0 0, [])], ⟨Vec.lit rfl, by omega, .inr ⟨by simp, Nat.lt_succ_self _⟩, ?_⟩, ?_⟩, hx1.trans hxz⟩
    ·intro x hx; simp at hx; subst hx; exact ⟨H.next, Nat.le_refl _, by show H.next < H1.next + 1; omega, by omega, Vec.nil _ _ _⟩
    ·rw [List.drop_of_length_le (by omega), List.drop_of_length_le (by omega)]; rfl
   have hg' : side < n := by have := of_decide_eq_false hg; omega
   obtain ⟨f, rfl⟩ : ∃ g, f = g + 1 := ⟨f - 1, by omega⟩; refine A2 ?_; simp +decide only [sQ]; refine A0 ?_; simp only [sS]; obtain ⟨b1, o1, i1, _, c1⟩ := SlI.get (SlI.ext hls hx1) (i := side) (by omega); obtain ⟨b2, o2, i2, _, c2⟩ := SlI.get (SlI.ext hus hx1) (i := side) (by omega); have hdL : L.drop side = L[side] :: L.drop (side + 1) := List.drop_eq_getElem_cons (by omega); have hdU : U.drop side = U[side] :: U.drop (side + 1) := List.drop_eq_getElem_cons (by omega); have saL := hsL _ (List.getElem_mem (by omega : side < L.length)); have saU := hsU _ (List.getElem_mem (by omega : side < U.length)); rw [hdL, hdU]; generalize L[side] = a at c1 saL; generalize U[side] = c at c2 saU; refine C7 (d6 (fun e' H' => H' = H1.alloc [vi a, vi c] ∧ e' = [.agg #[.int .i64 k, ls, us], .int .i64 side, .pointer (some ⟨H.next, 0, none⟩), .slice none 0 0, .slice none 0 0, undef, undef, .slice (some ⟨H1.next, 0, some 0⟩) 2 2, .int .i64 (2 : Nat), .int .i64 (0 : Nat), undef, undef, undef]) ?_ ?_)
   ·simp only [sS, Nat.zero_add, B7 hb1, i1, c1, i2, c2, C2j]; simp [O3, O6]
   rintro e' H2 ⟨rfl, rfl⟩; have hx2 := Ext.alloc H1 [vi a, vi c]; have hvl : C0 (H1.alloc [vi a, vi c]) H1.next (.slice (some ⟨H1.next, 0, some 0⟩) 2 2) [a, c] := C0.lit H1 [a, c]; have hn2 : (H1.alloc [vi a, vi c]).next = H1.next + 1 := rfl; generalize H1.alloc [vi a, vi c] = H2 at hx2 hvl hn2 ⊢; generalize (Value.slice (some ⟨H1.next, 0, some 0⟩) 2 2) = lit at hvl ⊢; have hx02 := hx1.trans hx2; generalize hC : crn (L.drop (side + 1)) (U.drop (side + 1)) = C; have hClen : C.length ≤ 8 := by
    rw [← hC, C07 _ _ (by simp; omega)]; exact Nat.pow_le_pow_right (by decide) (by simp; omega : (L.drop (side + 1)).length ≤ 3)
   have hCl : ∀ p ∈ C, p.length ≤ 3 := by
    intro p hp; rw [← hC] at hp; have := (B1c (by simp; omega) hp).1; simp at this; omega
   refine A7 ?_; refine B9 (fun j e' H' => ∃ (i b : Nat) (vo x5 x6 x10 x11 x12 : Value) (ps : List (Value × List (Int × Nat))), i + j = 2 ∧ ps.length = i * C.length ∧ W4 H' H2.next b vo ps ∧ ps.map (·.2) = ((([a, c].take i).flatMap fun m => C.map (m :: ·)).map (dnl k)) ∧ Ext H2 H' ∧ e' = [.agg #[.int .i64 k, ls, us], .int .i64 side, .pointer (some ⟨H.next, 0, none⟩), .slice none 0 0, vo, x5, x6, lit, .int .i64 (2 : Nat), .int .i64 i, x10, x11, x12]) 2 ⟨0, H2.next, _, _, _, _, _, _, [], by omega, by simp, W4.nil' _ _, rfl, Ext.refl _, rfl⟩ ?_; rintro j e' H3 ⟨i, b, vo, x5, x6, x10, x11, x12, ps, hij, hpl, hG, hps, hx3, rfl⟩; have hn3 := hx3.next; refine A9 ?_; simp only [sS]; refine C4.split (fun hlt => ?_) (fun hlt => ?_)
   ·have hlt' : i < 2 := by have := of_decide_eq_true hlt; omega
    refine A2 ?_; simp +decide only [sQ]; obtain ⟨b3, o3, i3, _, c3⟩ := SlI.get (SlI.ext hvl.sl hx3) (i := i) (by simp; omega); have htk : [a, c].take (i + 1) = [a, c].take i ++ [([a, c] : List Int)[i]] := List.take_succ_eq_append_getElem (by simpa using hlt'); have sam : (([a, c] : List Int)[i]).natAbs ≤ 100000 := by
     rcases (by omega : i = 0 ∨ i = 1) with rfl | rfl
     ·exact saL
     ·exact saU
    generalize ([a, c] : List Int)[i] = m at c3 htk sam; have hb3 : H3.blk H.next = some [.int .i64 k, ls, us] := by rw [(hx2.trans hx3).blk _ (by omega)]; exact hb1
    refine A7 ?_; refine A0 ?_; simp only [sS, i3, c3]; refine A0 ?_; have w1 : IntKind.i64.wrap ((side : Int) + 1) = ((side + 1 : Nat) : Int) := D6 (by omega); simp only [sS, E9 hb3, w1]; refine (B0x k n L U hk hL hU hn hsL hsU f lim _ (side + 1) H3 (by omega) (by omega) ⟨ls, us, rfl, SlI.ext hls (hx02.trans hx3), SlI.ext hus (hx02.trans hx3)⟩).mono ?_; rintro rv H4 ⟨⟨br, pr, hGr, hpr⟩, hx4⟩; rw [hC] at hpr; have hn4 := hx4.next; have hprl : pr.length = C.length := by have := congrArg List.length hpr; simpa using this
    simp only [sS, hGr.lenV]; refine A8 ?_; refine B9 (fun j2 e' H' => ∃ (i2 b : Nat) (vo x6 : Value) (ps2 : List (Value × List (Int × Nat))), i2 + j2 = pr.length ∧ ps2.length = ps.length + i2 ∧ (ps2 = [] ∨ b < H3.next ∨ H4.next ≤ b) ∧ H4.next ≤ H'.next ∧ (∀ c', H3.next ≤ c' → c' < H4.next → H'.blk c' = H4.blk c') ∧ W4 H' H2.next b vo ps2 ∧ ps2.map (·.2) = ps.map (·.2) ++ (((C.take i2).map (m :: ·)).map (dnl k)) ∧ Ext H2 H' ∧ e' = [.agg #[.int .i64 k, ls, us], .int .i64 side, .pointer (some ⟨H.next, 0, none⟩), .slice none 0 0, vo, .int .i64 m, x6, lit, .int .i64 (2 : Nat), .int .i64 i, rv, .int .i64 pr.length, .int .i64 i2]) pr.length ⟨0, b, vo, _, ps, by omega, by omega, hG.hi.imp (·.1) (fun h => .inl h.2), Nat.le_refl _, fun _ _ _ => rfl, hG.ext hx4, by simp, hx3.trans hx4, rfl⟩ ?_; rintro j2 e' H5 ⟨i2, b5, vo5, x65, ps5, hij5, hpl5, hb5, hn45, hk45, hG5, hps5, hx25, rfl⟩; have hn5 := hx25.next; have hG5r := hGr.keep hn45 hk45; refine A9 ?_; simp only [sS]; refine C4.split (fun hlt5 => ?_) (fun hlt5 => ?_)
    ·have hlt5' : i2 < pr.length := by have := of_decide_eq_true hlt5; omega
     obtain ⟨b6, o6, i6, c6, s6⟩ := hG5r.at hlt5'; have hbx5 : H5.blk H.next = some [.int .i64 k, ls, us] := by rw [(hx2.trans hx25).blk _ (by omega)]; exact hb1
     have hpi : pr[i2].2 = dnl k (C[i2]'(by omega)) := by
      have := congrArg (fun z => z[i2]?) hpr; simp [hlt5', (by omega : i2 < C.length)] at this; exact this
     have hCi := hCl _ (List.getElem_mem (by omega : i2 < C.length)); have htC : C.take (i2 + 1) = C.take i2 ++ [C[i2]'(by omega)] := List.take_succ_eq_append_getElem (by omega); generalize pr[i2] = x at c6 s6 hpi; generalize C[i2]'(by omega) = pc2 at hpi hCi htC; have hp5l : ps5.length ≤ 1000 := by
      have : i * C.length ≤ 2 * 8 := Nat.mul_le_mul (by omega) hClen; omega
     refine A2 ?_; simp +decide only [sQ]; refine A7 ?_; refine A0 ?_; simp only [sS, i6, c6]; refine A4 ?_; simp only [sS, Nat.add_zero, B7 hbx5]; refine (A6k lim m k H5 (by omega) (by omega) (by omega)).mono ?_; rintro _ H6 ⟨⟨N, K, rfl, hd⟩, hx6⟩; have hn6 := hx6.next; have s6' := s6.ext hx6; rw [hpi] at s6'; obtain ⟨v7, H7, c7, a7, q7, k7, l7, hx7⟩ := D4p (lim := lim) (N, K) s6' (by omega) (by simp; omega); have hb7 : E0 H6 1 [.int .i64 0, .int .i64 0] [(0, 2, dyV N K)] = some (.slice (some ⟨H6.next, 0, some 0⟩) 1 1, H6.alloc [vi N, vi (K : Int)]) := D1q H6 (N, K); simp only at a7; have hn7 := hx7.next; have e7 : (N, K) :: dnl k pc2 = dnl k (m :: pc2) := by
      show _ = E6 m k :: _; rw [hd]
     rw [e7] at q7; obtain ⟨v8, H8, b8, a8, g8, hx8, hn8, hk8, hb8⟩ := hG5.push (lim := lim) (H0 := H2) (by omega) hx25 (Nat.le_refl _) (by omega) (hx6.trans hx7) (by omega) l7 q7 (by omega); simp only [sS, hb7, a7, C27 _ _ (Vec.cellsV q7), a8]; simp +decide only [sQ]; refine A4 ?_; simp only [sS, D6 (i := i2) (by omega)]; simp +decide only [sQ]; refine C6.mk (j2 - 1) (by omega) ⟨i2 + 1, b8, v8, _, _, by omega, by simp; omega, .inr ?_, by omega, fun c' h1 h2 => ?_, g8, ?_, hx8, rfl⟩
     ·rcases hb8 with ⟨h1, rfl⟩ | h1
      ·rcases hb5 with h2 | h2
       ·exact absurd h2 h1
       ·exact h2
      ·right; omega
     ·rw [hk8 c' (by omega) (fun h3 => ?_), hk45 c' h1 h2]; rcases hb5 with h4 | h4 | h4
      ·exact absurd h4 h3
      ·omega
      ·omega
     ·rw [List.map_append, hps5, htC]; simp
    have hi2 : i2 = pr.length := by have := of_decide_eq_false hlt5; omega
    subst hi2; refine B8 ?_; simp +decide only [sQ, reduceIte]; refine A4 ?_; simp only [sS, D6 (i := i) (by omega)]; simp +decide only [sQ]; refine C6.mk (j - 1) (by omega) ⟨i + 1, b5, vo5, _, _, _, _, _, ps5, by omega, ?_, hG5, ?_, hx25, rfl⟩
    ·rw [Nat.add_mul, Nat.one_mul]; omega
    ·rw [hps5, hps, htk, hprl, List.take_length]; simp
   have hi : i = 2 := by have := of_decide_eq_false hlt; omega
   subst hi; refine B8 ?_; simp +decide only [sQ, reduceIte]; refine A0 ?_; simp only [sS]; refine A3 ?_; simp +decide only [sQ]; refine ⟨⟨b, ps, ⟨hG.vec, by have := hG.low; omega, hG.hi, fun x hm => by obtain ⟨c, h1, h2⟩ := hG.el x hm; exact ⟨c, by omega, h2⟩⟩, ?_⟩, hx02.trans hx3⟩; rw [hps]; simp [crn, hC]
termination_by f => f
end Go.Proofs.YtmdeppkfboaepaaGreat
namespace Go.Proofs.YtmdeppkfboaepaaGreat
open Go.Ab Ints
def A3x (p : List Tm) (k : Int) (L U : List Int) : Bool := I1 p && G0 k L U && decide (k ≤ 4) && I9 L.length p
theorem B9v {n : Nat} (h1 : 1 ≤ n) (p : List Tm) : I9 n p = true ↔ ∀ j : Nat, n ≤ j → j < 3 → ¬ I3 j (-1) p > 0 := by
 simp only [I9, Bool.and_eq_true, Bool.or_eq_true, decide_eq_true_eq, Bool.not_eq_true', decide_eq_false_iff_not]
 constructor
 ·intro h j h2 h3; have : j = 1 ∨ j = 2 := by omega
  rcases this with rfl | rfl
  ·exact h.1.2.resolve_left (by omega)
  ·exact h.2.resolve_left (by omega)
 ·intro h; refine ⟨⟨.inl (by omega), ?_⟩, ?_⟩
  ·by_cases h3 : n > 1
   ·exact .inl h3
   ·exact .inr (h 1 (by omega) (by decide))
  ·by_cases h3 : n > 2
   ·exact .inl h3
   ·exact .inr (h 2 (by omega) (by decide))
theorem D0e {k : Int} {L U : List Int} (h2 : G0 k L U = true) (h3 : k ≤ 4) : ∃ kn : Nat, k = kn ∧ Crs kn L.length L U := by
 obtain ⟨g1, g2, g3, g4, g5, _, _⟩ := F7 h2; simp only [G0, Bool.and_eq_true, decide_eq_true_eq, Bool.not_eq_true', bne_eq_false_iff_eq] at h2; have hr := h2.1.2; obtain ⟨kn, rfl⟩ : ∃ kn : Nat, k = kn := ⟨k.toNat, by omega⟩; rw [Int.toNat_natCast] at hr; have hp := A6z (n := kn) (m := 4) (by omega); have hR := A50 hr g5 (by omega); refine ⟨kn, rfl, ⟨by omega, by omega, by omega, rfl, by omega, fun j => (hR j).1, fun j => ?_, fun j => ?_⟩⟩
 ·have := hR j; omega
 ·have := hR j; omega
theorem A1k {p : List Tm} {k : Int} {L U : List Int} (h : A3x p k L U = true) : I1 p = true ∧ G0 k L U = true ∧ I9 L.length p = true ∧ ∃ kn : Nat, k = kn ∧ Crs kn L.length L U := by
 simp only [A3x, Bool.and_eq_true, decide_eq_true_eq] at h; exact ⟨h.1.1.1, h.1.1.2, h.2, D0e h.1.1.2 h.1.2⟩
theorem B75 (lim : Nat) (s v : Value) (p : List Tm) (k : Int) (L U : List Int) (H : A1) (hl : lim ≤ H.next) (hs : SlT H s p) (hv : V6 H v k L U) (hn : p.length ≤ 1000000) (hL : L.length ≤ 1000000) (hU : U.length ≤ 1000000) :
 A5 Tryz.prog lim B5o [s, v] H fun v H' => v = .bool (A3x p k L U) ∧ Ext H H' := by
 obtain ⟨ls, us, rfl, hls, hus⟩ := hv; refine B4w.go rfl ?_; unfold A5i; refine A0 ?_; simp only [sS, M5, C2]; have hx : Ext H (H.alloc [.int .i64 k, ls, us]) := Ext.alloc _ _; have hls1 := SlI.ext hls hx; have hus1 := SlI.ext hus hx; have hbp : (H.alloc [.int .i64 k, ls, us]).blk H.next = some [.int .i64 k, ls, us] := A6 _ _; have hbl : H.next < (H.alloc [.int .i64 k, ls, us]).next := Nat.lt_succ_self _; generalize H.alloc [.int .i64 k, ls, us] = H1 at hx hls1 hus1 hbp hbl ⊢; have hn1 := hx.next; refine J1 (!(I1 p && G0 k L U && decide (k ≤ 4))) (Ext H1) ?_ (fun H2 hx2 hg => ?_) (fun H2 hx2 hg => ?_)
 ·simp only [sS]; refine (A6x lim s p H1 (by omega) (hs.ext hx) (by omega)).mono ?_; rintro _ H2 ⟨rfl, hx2⟩; have hn2' := hx2.next; have hbp2 : H2.blk H.next = some [.int .i64 k, ls, us] := by rw [hx2.blk _ hbl]; exact hbp
  cases h1 : I1 p
  ·simp only [sS]; exact ⟨by simp, trivial, hx2⟩
  simp only [sS, E9 hbp2]; refine (e8 lim _ k L U H2 (by omega) ⟨_, _, rfl, SlI.ext hls1 hx2, SlI.ext hus1 hx2⟩ (by omega) (by omega)).mono ?_; rintro _ H3 ⟨rfl, hx3⟩; have hbp3 : H3.blk H.next = some [.int .i64 k, ls, us] := by rw [hx3.blk _ (by omega)]; exact hbp2
  cases h2 : G0 k L U
  ·simp only [sS]; exact ⟨by simp, trivial, hx2.trans hx3⟩
  simp only [sS, Nat.zero_add, B7 hbp3]; refine ⟨?_, trivial, hx2.trans hx3⟩; by_cases h3 : k ≤ 4
  ·have d2 : decide (k > 4) = false := by simp; omega
   simp [h3, d2]
  ·have d2 : decide (k > 4) = true := by simp; omega
   simp [h3, d2]
 ·refine A0 ?_; simp only [sS]; refine A3 ?_; simp +decide only [sQ]; have hg' := (Bool.not_eq_true' _).mp hg; unfold A3x; rw [hg', Bool.false_and]; exact ⟨rfl, hx.trans hx2⟩
 have hg' := (Bool.not_eq_false' _).mp hg; have hgb : G0 k L U = true := by simp only [Bool.and_eq_true] at hg'; exact hg'.1.2
 obtain ⟨_, _, g3, g4, g5, _, _⟩ := F7 hgb; have hb2 : H2.blk H.next = some [.int .i64 k, ls, us] := by rw [hx2.blk _ hbl]; exact hbp
 have hx02 := hx.trans hx2; have hlen := (SlI.ext hls1 hx2).lenV; refine A2 ?_; simp +decide only [sQ]; refine C7 (A0 ?_); simp only [sS, Nat.zero_add, B7 hb2, hlen]; refine A7 ?_; refine B9 (fun j e' H' => ∃ i : Nat, i + j = 3 ∧ L.length ≤ i ∧ (∀ m : Nat, L.length ≤ m → m < i → ¬ I3 m (-1) p > 0) ∧ Ext H H' ∧ e' = [s, .agg #[.int .i64 k, ls, us], .pointer (some ⟨H.next, 0, none⟩), .bool false, .int .i64 i]) (3 - L.length) ⟨L.length, by omega, Nat.le_refl _, fun m h1 h2 => by omega, hx02, rfl⟩ ?_; rintro j e' H3 ⟨i, hij, hi, hall, hx3, rfl⟩; have hn3 := hx3.next; refine A9 ?_; simp only [sS]; refine C4.split (fun hlt => ?_) (fun hlt => ?_)
 ·have hlt' : i < 3 := by have := of_decide_eq_true hlt; omega
  refine A2 ?_; simp +decide only [sQ]; refine A7 ?_; refine S8 (decide (I3 i (-1) p > 0)) (Ext H) ?_ (fun H4 hx4 hg4 => ?_) (fun H4 hx4 hg4 => ?_)
  ·simp only [sS]; refine (j0 lim s p i H3 (by omega) (hs.ext hx3) (by omega)).mono ?_; rintro _ H4 ⟨rfl, hx4⟩; simp only [sS]; exact ⟨trivial, trivial, hx3.trans hx4⟩
  ·refine A0 ?_; simp only [sS]; refine A3 ?_; simp +decide only [sQ]; have h5 : I9 L.length p = false := by
    cases h6 : I9 L.length p
    ·rfl
    ·exact absurd (of_decide_eq_true hg4) ((B9v g3 p).1 h6 i hi hlt')
   unfold A3x; rw [h5, Bool.and_false]; exact ⟨rfl, hx4⟩
  refine A2 ?_; simp +decide only [sQ]; refine A4 ?_; simp only [sS, D6 (i := i) (by omega)]; simp +decide only [sQ]; refine C6.mk (j - 1) (by omega) ⟨i + 1, by omega, by omega, fun m h1 h2 => ?_, hx4, rfl⟩; by_cases h3 : m = i
  ·subst h3; exact of_decide_eq_false hg4
  ·exact hall m h1 (by omega)
 refine B8 ?_; simp +decide only [sQ, reduceIte]; refine A0 ?_; simp only [sS]; refine A3 ?_; simp +decide only [sQ]; have hi3 : i = 3 := by have := of_decide_eq_false hlt; omega
 subst hi3; have h5 : I9 L.length p = true := (B9v g3 p).2 hall; unfold A3x; rw [hg', h5]; exact ⟨rfl, hx3⟩
theorem B6j (lim : Nat) (s bl bu : Value) (p : List Tm) (k : Int) (L U : List Int) (q : Nat) (H : A1) (hl : lim ≤ H.next) (hs : SlT H s p) (hv : Ints.T0 H q k bl bu L U) (hq : q < H.next) (hn : p.length ≤ 1000000) (hL : L.length ≤ 1000000) (hU : U.length ≤ 1000000) :
 A5 Tryz.prog lim B7o [s, .pointer (some ⟨q, 0, none⟩)] H fun v H' => v = .bool (A3x p k L U) ∧ Ext H H' := by
 have hP : A5 Tryz.prog lim B35 [s, .pointer (some ⟨q, 0, none⟩)] H fun v H' => v = .bool (I1 p && G0 k L U && I9 L.length p) ∧ Ext H H' := by
  refine B2w.go rfl ?_; unfold A4q; refine A0 ?_; simp only [sS]; refine A0 ?_; simp only [sS]; refine (B1x lim s p H hl hs (by omega)).mono ?_; rintro _ H2 ⟨rfl, hx2⟩; have hn2' := hx2.next; cases h1 : I1 p
  ·simp only [sS]; refine A3 ?_; simp +decide only [sQ]; exact ⟨by simp, hx2⟩
  simp only [sS]; have hv2 := hv.ext hq hx2; refine (B67 lim hv2 (by omega) (by omega)).eq ?_; cases h2 : G0 k L U
  ·simp only [sS]; refine A3 ?_; simp +decide only [sQ]; exact ⟨by simp, hx2⟩
  simp only [sS, Nat.zero_add, B7 hv2.blk, hv.low.lenV]; refine (B6l lim s p L.length H2 (by omega) (hs.ext hx2) (by omega)).mono ?_; rintro _ H3 ⟨rfl, hx3⟩; rw [A65]; simp only [sS]; refine A3 ?_; simp +decide only [sQ]; exact ⟨by simp, hx2.trans hx3⟩
 refine B4b.go rfl ?_; unfold A6a; refine A0 ?_; simp only [sS]; refine A0 ?_; simp only [sS]; refine hP.mono ?_; rintro _ H2 ⟨rfl, hx2⟩; have hv2 := hv.ext hq hx2; unfold A3x; cases h1 : I1 p <;> cases h2 : G0 k L U <;> cases h3 : I9 L.length p <;>
  (simp only [sS, Bool.and_true, Bool.and_false, Bool.true_and, Bool.false_and, Nat.zero_add, B7 hv2.blk]
   refine A3 ?_; simp +decide only [sQ]; exact ⟨by simp, hx2⟩)
def fsR (p : List Tm) (k : Int) (L U : List Int) (side : Int) (up : Bool) : Int × Bool := if A3x p k L U && (decide (0 ≤ side) && decide (side ≤ (L.length : Int) - 1)) then (fcS k.toNat p L U side.toNat up, true) else (0, false)
theorem B5g {L : List Int} (h : L.length ≤ 1000000) : IntKind.i64.wrap ((L.length : Int) - 1) = (L.length : Int) - 1 := E3 (by omega) (by omega)
theorem C88 (lim : Nat) (s v : Value) (p : List Tm) (k : Int) (L U : List Int) (side : Int) (up : Bool) (H : A1) (hl : lim ≤ H.next) (hs : SlT H s p) (hv : V6 H v k L U) (hn : p.length ≤ 1000000) (hL : L.length ≤ 1000000) (hU : U.length ≤ 1000000) :
 A5 Tryz.prog lim B36 [s, v, .int .i64 side, .bool up] H fun v H' => v = .tuple #[.int .i64 (fsR p k L U side up).1, .bool (fsR p k L U side up).2] ∧ Ext H H' := by
 obtain ⟨ls, us, rfl, hls, hus⟩ := hv; refine B19.go rfl ?_; unfold A4p; refine A0 ?_; simp only [sS, M5, C2]; have hx : Ext H (H.alloc [.int .i64 k, ls, us]) := Ext.alloc _ _; have hls1 := SlI.ext hls hx; have hus1 := SlI.ext hus hx; have hbp : (H.alloc [.int .i64 k, ls, us]).blk H.next = some [.int .i64 k, ls, us] := A6 _ _; have hbl : H.next < (H.alloc [.int .i64 k, ls, us]).next := Nat.lt_succ_self _; generalize H.alloc [.int .i64 k, ls, us] = H1 at hx hls1 hus1 hbp hbl ⊢; have hn1 := hx.next; have hw := B5g hL; refine J1 (!(A3x p k L U && (decide (0 ≤ side) && decide (side ≤ (L.length : Int) - 1)))) (Ext H1) ?_ (fun H2 hx2 hg => ?_) (fun H2 hx2 hg => ?_)
 ·simp only [sS, E9 hbp]; refine (B75 lim s _ p k L U H1 (by omega) (hs.ext hx) ⟨_, _, rfl, hls1, hus1⟩ hn hL hU).mono ?_; rintro _ H2 ⟨rfl, hx2⟩; have hbp2 : H2.blk H.next = some [.int .i64 k, ls, us] := by rw [hx2.blk _ hbl]; exact hbp
  cases h1 : A3x p k L U
  ·simp only [sS]; exact ⟨by simp, trivial, hx2⟩
  simp only [sS, Nat.zero_add, B7 hbp2, hls.lenV, hw]; refine (L6 _ _ _ _ _).eq ?_; simp only [sS]; exact ⟨by simp, trivial, hx2⟩
 ·refine A0 ?_; simp only [sS]; refine A3 ?_; simp +decide only [sQ]; have hg' := (Bool.not_eq_true' _).mp hg; unfold fsR; rw [hg']; exact ⟨rfl, hx.trans hx2⟩
 have hg' := (Bool.not_eq_false' _).mp hg; have hg2 := hg'; simp only [Bool.and_eq_true, decide_eq_true_eq] at hg2; obtain ⟨q1, q2, q3, kn, rfl, hc⟩ := A1k hg2.1; obtain ⟨sd, rfl⟩ : ∃ n : Nat, side = n := ⟨side.toNat, by omega⟩; have hb2 : H2.blk H.next = some [.int .i64 kn, ls, us] := by rw [hx2.blk _ hbl]; exact hbp
 have hn2 := hx2.next; refine A2 ?_; simp +decide only [sQ]; refine A0 ?_; simp only [sS, E9 hb2]; refine (B17 lim s _ p L U kn L.length sd up H2 (by omega) (hs.ext (hx.trans hx2)) ⟨_, _, rfl, SlI.ext hls1 hx2, SlI.ext hus1 hx2⟩ hc q1 (by omega)).mono ?_; rintro _ H3 ⟨rfl, hx3⟩; simp only [sS]; refine A3 ?_; simp +decide only [sQ]; unfold fsR; rw [hg']; exact ⟨rfl, (hx.trans hx2).trans hx3⟩
theorem D3r (lim : Nat) (k : Int) (bl bu : Value) (L U : List Int) (q : Nat) (side : Int) (H : A1) (hv : Ints.T0 H q k bl bu L U) (hL : L.length ≤ 1000000) :
 A5 Tryz.prog lim B7z [.pointer (some ⟨q, 0, none⟩), .int .i64 side] H fun v H' => v = .bool (decide (0 ≤ side) && decide (side ≤ (L.length : Int) - 1)) ∧ H' = H := by
 have hw := B5g hL; refine B34.go rfl ?_; unfold A5l; refine A0 ?_; simp only [sS]; refine A0 ?_; simp only [sS, Nat.zero_add, B7 hv.blk, hv.low.lenV, hw]; refine (J7 _ _ _ _ _).eq ?_; simp only [sS]; refine A3 ?_; simp +decide only [sQ]
theorem B52 (lim : Nat) (s v : Value) (p : List Tm) (k : Int) (L U : List Int) (side : Int) (up : Bool) (H : A1) (hl : lim ≤ H.next) (hs : SlT H s p) (hv : V6 H v k L U) (hn : p.length ≤ 1000000) (hL : L.length ≤ 1000000) (hU : U.length ≤ 1000000) :
 A5 Tryz.prog lim B4r [s, v, .int .i64 side, .bool up] H fun v H' => v = .tuple #[.int .i64 (fsR p k L U side up).1, .bool (fsR p k L U side up).2] ∧ Ext H H' := by
 obtain ⟨ls, us, rfl, hls, hus⟩ := hv; refine B10.go rfl ?_; unfold A4w; refine A0 ?_; simp only [sS, M5, C2]; have hx : Ext H (H.alloc [.int .i64 k, ls, us]) := Ext.alloc _ _; have hbp : Ints.T0 (H.alloc [.int .i64 k, ls, us]) H.next k ls us L U := ⟨A6 _ _, SlI.ext hls hx, SlI.ext hus hx⟩; have hbl : H.next < (H.alloc [.int .i64 k, ls, us]).next := Nat.lt_succ_self _; generalize H.alloc [.int .i64 k, ls, us] = H1 at hx hbp hbl ⊢; have hn1 := hx.next; refine J1 (!(A3x p k L U && (decide (0 ≤ side) && decide (side ≤ (L.length : Int) - 1)))) (Ext H1) ?_ (fun H2 hx2 hg => ?_) (fun H2 hx2 hg => ?_)
 ·simp only [sS]; refine (B6j lim s ls us p k L U H.next H1 (by omega) (hs.ext hx) hbp hbl hn hL hU).mono ?_; rintro _ H2 ⟨rfl, hx2⟩; have hb2 := hbp.ext hbl hx2; cases h1 : A3x p k L U
  ·simp only [sS]; exact ⟨by simp, trivial, hx2⟩
  simp only [sS]; refine (D3r lim k ls us L U H.next side H2 hb2 hL).eq ?_; simp only [sS]; exact ⟨by simp, trivial, hx2⟩
 ·refine A0 ?_; simp only [sS]; refine A3 ?_; simp +decide only [sQ]; have hg' := (Bool.not_eq_true' _).mp hg; unfold fsR; rw [hg']; exact ⟨rfl, hx.trans hx2⟩
 have hg' := (Bool.not_eq_false' _).mp hg; have hg2 := hg'; simp only [Bool.and_eq_true, decide_eq_true_eq] at hg2; obtain ⟨q1, q2, q3, kn, rfl, hc⟩ := A1k hg2.1; obtain ⟨sd, rfl⟩ : ∃ n : Nat, side = n := ⟨side.toNat, by omega⟩; have hb2 := hbp.ext hbl hx2; have hn2 := hx2.next; refine A2 ?_; simp +decide only [sQ]; refine A0 ?_; simp only [sS]; refine (A59 lim s ls us p L U kn L.length sd H.next up H2 (by omega) (hs.ext (hx.trans hx2)) hb2 (by omega) hc q1 q3 (by omega)).mono ?_; rintro _ H3 ⟨rfl, hx3⟩; simp only [sS]; refine A3 ?_; simp +decide only [sQ]; unfold fsR; rw [hg']; exact ⟨rfl, (hx.trans hx2).trans hx3⟩
end Go.Proofs.YtmdeppkfboaepaaGreat
namespace Go.Proofs.YtmdeppkfboaepaaGreat
open Go.Ab Ints
def B89 (k : Nat) (p : List Tm) (L U : List Int) (n : Nat) : List Int := ((List.range n).filter fun i => B2r k p L U i).map fun (i : Nat) => (i : Int)
theorem A61 (k : Nat) (p : List Tm) (L U : List Int) (n : Nat) : B89 k p L U (n + 1) = B89 k p L U n ++ if B2r k p L U n then [(n : Int)] else [] := by
 unfold B89; rw [List.range_succ, List.filter_append, List.map_append]; cases h : B2r k p L U n <;> simp [h]
theorem B5e (k : Nat) (p : List Tm) (L U : List Int) (n : Nat) : (B89 k p L U n).length ≤ n := by
 unfold B89; rw [List.length_map]; exact Nat.le_trans (List.length_filter_le _ _) (by simp)
theorem C8v (k : Nat) (p : List Tm) (L U : List Int) (n i : Nat) (h : i < n) : decide ((i : Int) ∈ B89 k p L U n) = B2r k p L U i := by
 rw [Bool.eq_iff_iff, decide_eq_true_eq]; unfold B89; simp only [List.mem_map, List.mem_filter, List.mem_range]
 constructor
 ·rintro ⟨j, ⟨h1, h2⟩, h3⟩; have : j = i := by omega
  subst this; exact h2
 ·intro h2; exact ⟨i, ⟨h, h2⟩, rfl⟩
def osR (p : List Tm) (k : Int) (L U : List Int) : List Int × Bool := if A3x p k L U then (B89 k.toNat p L U L.length, true) else ([], false)
theorem D02 (lim : Nat) (s v : Value) (p : List Tm) (k : Int) (L U : List Int) (H : A1) (hl : lim ≤ H.next) (hs : SlT H s p) (hv : V6 H v k L U) (hn : p.length ≤ 1000000) (hL : L.length ≤ 1000000) (hU : U.length ≤ 1000000) :
 A5 Tryz.prog lim A6j [s, v] H fun v H' => (∃ x, v = .tuple #[x, .bool (osR p k L U).2] ∧ SlI H' x (osR p k L U).1) ∧ Ext H H' := by
 obtain ⟨ls, us, rfl, hls, hus⟩ := hv; refine A49.go rfl ?_; unfold j7; refine A0 ?_; simp only [sS, M5, C2]; have hx : Ext H (H.alloc [.int .i64 k, ls, us]) := Ext.alloc _ _; have hbp : Ints.T0 (H.alloc [.int .i64 k, ls, us]) H.next k ls us L U := ⟨A6 _ _, SlI.ext hls hx, SlI.ext hus hx⟩; have hbl : H.next < (H.alloc [.int .i64 k, ls, us]).next := Nat.lt_succ_self _; generalize H.alloc [.int .i64 k, ls, us] = H1 at hx hbp hbl ⊢; have hn1 := hx.next; refine J1 (!(A3x p k L U)) (Ext H1) ?_ (fun H2 hx2 hg => ?_) (fun H2 hx2 hg => ?_)
 ·simp only [sS, E9 hbp.blk]; refine (B75 lim s _ p k L U H1 (by omega) (hs.ext hx) ⟨_, _, rfl, hbp.low, hbp.high⟩ hn hL hU).mono ?_; rintro _ H2 ⟨rfl, hx2⟩; simp only [sS]; exact ⟨trivial, trivial, hx2⟩
 ·refine A0 ?_; simp only [sS]; refine A3 ?_; simp +decide only [sQ]; have hg' := (Bool.not_eq_true' _).mp hg; unfold osR; rw [hg']; exact ⟨⟨_, rfl, SlI.nil' _⟩, hx.trans hx2⟩
 have hg' := (Bool.not_eq_false' _).mp hg; obtain ⟨q1, q2, q3, kn, rfl, hc⟩ := A1k hg'; have hn3 := hc.n3; have hb2 := hbp.ext hbl hx2; have hx02 := hx.trans hx2; have hn2 := hx02.next; refine A2 ?_; simp +decide only [sQ]; refine A0 ?_; simp only [sS]; refine C7 (A0 ?_); simp only [sS, Nat.zero_add, B7 hb2.blk, hb2.low.lenV]; refine A7 ?_; refine B9 (fun j e' H' => ∃ (i b : Nat) (vo x6 : Value), i + j = L.length ∧ C0 H' b vo (B89 kn p L U i) ∧ H2.next ≤ b ∧ Ext H2 H' ∧ e' = [s, .agg #[.int .i64 kn, ls, us], .pointer (some ⟨H.next, 0, none⟩), .slice none 0 0, .bool false, vo, x6, .int .i64 L.length, .int .i64 i]) L.length ⟨0, H2.next, _, _, by omega, Vec.nil _ _ _, Nat.le_refl _, Ext.refl _, rfl⟩ ?_; rintro j e' H3 ⟨i, b, vo, x6, hij, hv, hb, hx3, rfl⟩; have hn3' := hx3.next; have hbl2 : H.next < H2.next := by have := hx2.next; omega
 have hb3 := hb2.ext hbl2 hx3; refine A9 ?_; simp only [sS]; refine C4.split (fun hlt => ?_) (fun hlt => ?_)
 ·have hlt' : i < L.length := by have := of_decide_eq_true hlt; omega
  have hol := B5e kn p L U i; refine A2 ?_; simp +decide only [sQ]; refine A7 ?_; refine A0 ?_; simp only [sS]; refine S8 (B2r kn p L U i) (Ext H3) ?_ (fun H4 hx4 hg4 => ?_) (fun H4 hx4 hg4 => ?_)
  ·simp only [sS, E9 hb3.blk]; refine (A8m lim s _ p L U kn L.length i H3 (by omega) (hs.ext (hx02.trans hx3)) ⟨_, _, rfl, hb3.low, hb3.high⟩ hc q1 hlt').mono ?_; rintro _ H4 ⟨rfl, hx4⟩; simp only [sS]; exact ⟨trivial, trivial, hx4⟩
  ·have hn4 := hx4.next; obtain ⟨v', H5, b', g1, g2, g3, g4, g5⟩ := C0.push (lim := lim) (Vec.ext hv hx4) (i : Int) (by omega) (by omega); refine A4 ?_; simp only [sS, Q9, g1]; simp +decide only [sQ]; refine A4 ?_; simp only [sS, D6 (i := i) (by omega)]; simp +decide only [sQ]; refine C6.mk (j - 1) (by omega) ⟨i + 1, b', v', _, by omega, ?_, by rcases g3 with rfl | g3 <;> omega, Chg.ext (hx3.trans hx4) g5 hb, rfl⟩; rw [A61, hg4]; exact g2
  ·refine A2 ?_; simp +decide only [sQ]; refine A4 ?_; simp only [sS, D6 (i := i) (by omega)]; simp +decide only [sQ]; refine C6.mk (j - 1) (by omega) ⟨i + 1, b, vo, _, by omega, ?_, hb, hx3.trans hx4, rfl⟩; rw [A61, hg4]; simpa using Vec.ext hv hx4
 have hi : i = L.length := by have := of_decide_eq_false hlt; omega
 subst hi; refine B8 ?_; simp +decide only [sQ, reduceIte]; refine A0 ?_; simp only [sS]; refine A3 ?_; simp +decide only [sQ]; unfold osR; rw [hg']; exact ⟨⟨_, rfl, hv.sl⟩, hx02.trans hx3⟩
theorem D19 (lim : Nat) (s v : Value) (p : List Tm) (k : Int) (L U : List Int) (H : A1) (hl : lim ≤ H.next) (hs : SlT H s p) (hv : V6 H v k L U) (hn : p.length ≤ 1000000) (hL : L.length ≤ 1000000) (hU : U.length ≤ 1000000) :
 A5 Tryz.prog lim A5o [s, v] H fun v H' => (∃ x, v = .tuple #[x, .bool (osR p k L U).2] ∧ SlI H' x (osR p k L U).1) ∧ Ext H H' := by
 obtain ⟨ls, us, rfl, hls, hus⟩ := hv; refine A5a.go rfl ?_; unfold o8; refine A0 ?_; simp only [sS, M5, C2]; have hx : Ext H (H.alloc [.int .i64 k, ls, us]) := Ext.alloc _ _; have hbp : Ints.T0 (H.alloc [.int .i64 k, ls, us]) H.next k ls us L U := ⟨A6 _ _, SlI.ext hls hx, SlI.ext hus hx⟩; have hbl : H.next < (H.alloc [.int .i64 k, ls, us]).next := Nat.lt_succ_self _; generalize H.alloc [.int .i64 k, ls, us] = H1 at hx hbp hbl ⊢; have hn1 := hx.next; refine J1 (!(A3x p k L U)) (Ext H1) ?_ (fun H2 hx2 hg => ?_) (fun H2 hx2 hg => ?_)
 ·simp only [sS]; refine (B6j lim s ls us p k L U H.next H1 (by omega) (hs.ext hx) hbp hbl hn hL hU).mono ?_; rintro _ H2 ⟨rfl, hx2⟩; simp only [sS]; exact ⟨trivial, trivial, hx2⟩
 ·refine A0 ?_; simp only [sS]; refine A3 ?_; simp +decide only [sQ]; have hg' := (Bool.not_eq_true' _).mp hg; unfold osR; rw [hg']; exact ⟨⟨_, rfl, SlI.nil' _⟩, hx.trans hx2⟩
 have hg' := (Bool.not_eq_false' _).mp hg; obtain ⟨q1, q2, q3, kn, rfl, hc⟩ := A1k hg'; have hn3 := hc.n3; have hb2 := hbp.ext hbl hx2; have hx02 := hx.trans hx2; have hn2 := hx02.next; refine A2 ?_; simp +decide only [sQ]; refine A0 ?_; simp only [sS]; refine C7 (A0 ?_); simp only [sS, Nat.zero_add, B7 hb2.blk, hb2.low.lenV]; refine A7 ?_; refine B9 (fun j e' H' => ∃ (i b : Nat) (vo x6 : Value), i + j = L.length ∧ C0 H' b vo (B89 kn p L U i) ∧ H2.next ≤ b ∧ Ext H2 H' ∧ e' = [s, .agg #[.int .i64 kn, ls, us], .pointer (some ⟨H.next, 0, none⟩), .slice none 0 0, .bool false, vo, x6, .int .i64 L.length, .int .i64 i]) L.length ⟨0, H2.next, _, _, by omega, Vec.nil _ _ _, Nat.le_refl _, Ext.refl _, rfl⟩ ?_; rintro j e' H3 ⟨i, b, vo, x6, hij, hv, hb, hx3, rfl⟩; have hn3' := hx3.next; have hbl2 : H.next < H2.next := by have := hx2.next; omega
 have hb3 := hb2.ext hbl2 hx3; refine A9 ?_; simp only [sS]; refine C4.split (fun hlt => ?_) (fun hlt => ?_)
 ·have hlt' : i < L.length := by have := of_decide_eq_true hlt; omega
  have hol := B5e kn p L U i; refine A2 ?_; simp +decide only [sQ]; refine A7 ?_; refine A0 ?_; simp only [sS]; refine S8 (B2r kn p L U i) (Ext H3) ?_ (fun H4 hx4 hg4 => ?_) (fun H4 hx4 hg4 => ?_)
  ·simp only [sS]; refine (B8y lim s ls us p L U kn L.length i H.next H3 (by omega) (hs.ext (hx02.trans hx3)) hb3 (by omega) hc q1 q3 hlt').mono ?_; rintro _ H4 ⟨rfl, hx4⟩; simp only [sS]; exact ⟨trivial, trivial, hx4⟩
  ·have hn4 := hx4.next; obtain ⟨v', H5, b', g1, g2, g3, g4, g5⟩ := C0.push (lim := lim) (Vec.ext hv hx4) (i : Int) (by omega) (by omega); refine A4 ?_; simp only [sS, Q9, g1]; simp +decide only [sQ]; refine A4 ?_; simp only [sS, D6 (i := i) (by omega)]; simp +decide only [sQ]; refine C6.mk (j - 1) (by omega) ⟨i + 1, b', v', _, by omega, ?_, by rcases g3 with rfl | g3 <;> omega, Chg.ext (hx3.trans hx4) g5 hb, rfl⟩; rw [A61, hg4]; exact g2
  ·refine A2 ?_; simp +decide only [sQ]; refine A4 ?_; simp only [sS, D6 (i := i) (by omega)]; simp +decide only [sQ]; refine C6.mk (j - 1) (by omega) ⟨i + 1, b, vo, _, by omega, ?_, hb, hx3.trans hx4, rfl⟩; rw [A61, hg4]; simpa using Vec.ext hv hx4
 have hi : i = L.length := by have := of_decide_eq_false hlt; omega
 subst hi; refine B8 ?_; simp +decide only [sQ, reduceIte]; refine A0 ?_; simp only [sS]; refine A3 ?_; simp +decide only [sQ]; unfold osR; rw [hg']; exact ⟨⟨_, rfl, hv.sl⟩, hx02.trans hx3⟩
theorem D30 (lim : Nat) (a : Value) (l : List Int) (n : Int) (H : A1) (ha : SlI H a l) (hn : l.length ≤ 1000000) :
 A5 Tryz.prog lim C5a [a, .int .i64 n] H fun v H' => v = .bool (decide (n ∈ l)) ∧ H' = H := by
 refine C2f.go rfl ?_; unfold B6s; refine A0 ?_; simp only [sS]; refine C7 (A0 ?_); simp only [sS, ha.lenV]; refine A7 ?_; refine B9 (fun j e' H' => H' = H ∧ ∃ (i : Nat) (x3 : Value), i + j = l.length ∧ n ∉ l.take i ∧ e' = [a, .int .i64 n, .bool false, x3, a, .int .i64 l.length, .int .i64 i]) l.length ⟨rfl, 0, _, by omega, by simp, rfl⟩ ?_; rintro j e' H' ⟨rfl, i, x3, hij, hni, rfl⟩; refine A9 ?_; simp only [sS]; refine C4.split (fun hlt => ?_) (fun hlt => ?_)
 ·have hlt' : i < l.length := by have := of_decide_eq_true hlt; omega
  obtain ⟨b1, o1, g1, _, g2⟩ := SlI.get ha (i := i) hlt'; have htk := List.take_succ_eq_append_getElem hlt'; have hmem := List.getElem_mem hlt'; generalize l[i] = y at g2 htk hmem; refine A2 ?_; simp +decide only [sQ]; refine A7 ?_; refine A0 ?_; simp only [sS, g1, g2]; refine D0 (y == n) ?_ (fun hg => ?_) (fun hg => ?_)
  ·simp only [sS]; simp
  ·refine A0 ?_; simp only [sS]; refine A3 ?_; simp +decide only [sQ]; have : y = n := by simpa using hg
   subst this; exact ⟨by simp [hmem], trivial⟩
  ·refine A2 ?_; simp +decide only [sQ]; refine A4 ?_; simp only [sS, D6 (i := i) (by omega)]; simp +decide only [sQ]; refine C6.mk (j - 1) (by omega) ⟨rfl, i + 1, _, by omega, ?_, rfl⟩; have : y ≠ n := by simpa using hg
   rw [htk]; simp only [List.mem_append, List.mem_singleton, not_or]; exact ⟨hni, fun e => this e.symm⟩
 have hi : i = l.length := by have := of_decide_eq_false hlt; omega
 subst hi; rw [List.take_length] at hni; refine B8 ?_; simp +decide only [sQ, reduceIte]; refine A0 ?_; simp only [sS]; refine A3 ?_; simp +decide only [sQ]; exact ⟨by simp [hni], trivial⟩
theorem C5h (lim : Nat) (v : Value) (k : Nat) (L U : List Int) (H : A1) (hl : lim ≤ H.next) (hv : V6 H v k L U) (hg : G0 k L U = true) :
 A5 Tryz.prog lim B24 [v] H fun v H' => (∃ x b lo ps, v = .tuple #[x, .bool true] ∧ W4 H' lo b x ps ∧ ps.map (·.2) = (crn L U).map (dnl k)) ∧ Ext H H' := by
 obtain ⟨ls, us, rfl, hls, hus⟩ := hv; obtain ⟨g1, g2, g3, g4, g5, g6, g7⟩ := F7 hg; refine A90.go rfl ?_; unfold A2x; refine A0 ?_; simp only [sS, M5, C2]; have hx : Ext H (H.alloc [.int .i64 k, ls, us]) := Ext.alloc _ _; have hbp : Ints.T0 (H.alloc [.int .i64 k, ls, us]) H.next k ls us L U := ⟨A6 _ _, SlI.ext hls hx, SlI.ext hus hx⟩; have hbl : H.next < (H.alloc [.int .i64 k, ls, us]).next := Nat.lt_succ_self _; generalize H.alloc [.int .i64 k, ls, us] = H1 at hx hbp hbl ⊢; have hn1 := hx.next; refine J1 false (Ext H1) ?_ (fun H2 hx2 hg => absurd hg (by decide)) (fun H2 hx2 _ => ?_)
 ·simp only [sS, E9 hbp.blk]; refine (e8 lim _ k L U H1 (by omega) ⟨_, _, rfl, hbp.low, hbp.high⟩ (by omega) (by omega)).mono ?_; rintro _ H2 ⟨rfl, hx2⟩; rw [hg]; simp only [sS]; exact ⟨trivial, trivial, hx2⟩
 have hb2 := hbp.ext hbl hx2; have hn2 := hx2.next; refine A2 ?_; simp +decide only [sQ]; refine A0 ?_; simp only [sS, E9 hb2.blk]; refine (B0x k L.length L U (by omega) rfl (by omega) (by omega) (fun x hx => by have := g6 x hx; omega) (fun x hx => by have := g7 x hx; omega) L.length lim _ 0 H2 (by omega) (by omega) ⟨_, _, rfl, hb2.low, hb2.high⟩).mono ?_; rintro x H3 ⟨⟨b, ps, k1, k2⟩, hx3⟩; simp only [sS]; refine A3 ?_; simp +decide only [sQ]; exact ⟨⟨x, b, _, ps, rfl, k1, k2⟩, (hx.trans hx2).trans hx3⟩
theorem C7q (lim : Nat) (v : Value) (k side : Nat) (L U : List Int) (H : A1) (hl : lim ≤ H.next) (hv : V6 H v k L U) (hg : G0 k L U = true) (hs : side < L.length) :
 A5 Tryz.prog lim B8i [v, .int .i64 side] H fun v H' => v = .tuple #[dV (E6 (L.getD side 0) k), dV (E6 (U.getD side 0) k), .bool true] ∧ Ext H H' := by
 obtain ⟨ls, us, rfl, hls, hus⟩ := hv; obtain ⟨g1, g2, g3, g4, g5, g6, g7⟩ := F7 hg; have hw := B5g (L := L) (by omega); have hin : (decide (0 ≤ (side : Int)) && decide ((side : Int) ≤ (L.length : Int) - 1)) = true := by simp; omega
 have hS : ∀ (lim : Nat) (H : A1), lim ≤ H.next → SlI H ls L → SlI H us U → A5 Tryz.prog lim B9b [.agg #[.int .i64 k, ls, us], .int .i64 side] H fun v H' => v = .bool true ∧ Ext H H' := by
  intro lim H hl hls hus; refine B7p.go rfl ?_; unfold A8c; refine A0 ?_; simp only [sS, M5, C2]; have hx : Ext H (H.alloc [.int .i64 k, ls, us]) := Ext.alloc _ _; have hbp : Ints.T0 (H.alloc [.int .i64 k, ls, us]) H.next k ls us L U := ⟨A6 _ _, SlI.ext hls hx, SlI.ext hus hx⟩; have hbl : H.next < (H.alloc [.int .i64 k, ls, us]).next := Nat.lt_succ_self _; generalize H.alloc [.int .i64 k, ls, us] = H1 at hx hbp hbl ⊢; have hn1 := hx.next; refine A0 ?_; simp only [sS, E9 hbp.blk]; refine (e8 lim _ k L U H1 (by omega) ⟨_, _, rfl, hbp.low, hbp.high⟩ (by omega) (by omega)).mono ?_; rintro _ H2 ⟨rfl, hx2⟩; have hb2 := hbp.ext hbl hx2; rw [hg]; simp only [sS, Nat.zero_add, B7 hb2.blk, hb2.low.lenV, hw]; refine (L6 _ _ _ _ _).eq ?_; rw [hin]; simp only [sS]; refine A3 ?_; simp +decide only [sQ]; exact ⟨trivial, hx.trans hx2⟩
 refine B54.go rfl ?_; unfold A8b; refine A0 ?_; simp only [sS, M5, C2]; have hx : Ext H (H.alloc [.int .i64 k, ls, us]) := Ext.alloc _ _; have hbp : Ints.T0 (H.alloc [.int .i64 k, ls, us]) H.next k ls us L U := ⟨A6 _ _, SlI.ext hls hx, SlI.ext hus hx⟩; have hbl : (H.alloc [.int .i64 k, ls, us]).next = H.next + 1 := rfl; generalize H.alloc [.int .i64 k, ls, us] = H1 at hx hbp hbl ⊢; have hy := Ext.alloc H1 [.int .i64 0, .int .i64 0]; have hyb : (H1.alloc [.int .i64 0, .int .i64 0]).blk H1.next = some [.int .i64 0, .int .i64 0] := A6 _ _; have hyn : (H1.alloc [.int .i64 0, .int .i64 0]).next = H1.next + 1 := rfl; generalize H1.alloc [.int .i64 0, .int .i64 0] = H2 at hy hyb hyn ⊢; have hz := Ext.alloc H2 [.int .i64 0, .int .i64 0]; have hzb : (H2.alloc [.int .i64 0, .int .i64 0]).blk H2.next = some [.int .i64 0, .int .i64 0] := A6 _ _; have hzn : (H2.alloc [.int .i64 0, .int .i64 0]).next = H2.next + 1 := rfl; generalize H2.alloc [.int .i64 0, .int .i64 0] = H3 at hz hzb hzn ⊢; have hb3 := (hbp.ext (by omega) hy).ext (by omega) hz; have hyb3 : H3.blk H1.next = some [.int .i64 0, .int .i64 0] := by rw [hz.blk _ (by omega)]; exact hyb
 have hx03 := hx.trans (hy.trans hz); refine J1 false (Ext H3) ?_ (fun H4 hx4 hg => absurd hg (by decide)) (fun H4 hx4 _ => ?_)
 ·simp only [sS, E9 hb3.blk]; refine (hS lim H3 (by omega) hb3.low hb3.high).mono ?_; rintro _ H4 ⟨rfl, hx4⟩; simp only [sS]; exact ⟨trivial, trivial, hx4⟩
 have hn4 := hx4.next; have hb4 := hb3.ext (by omega) hx4; obtain ⟨b1, o1, i1, _, c1⟩ := SlI.get hb4.low (i := side) hs; obtain ⟨b2, o2, i2, _, c2⟩ := SlI.get hb4.high (i := side) (by omega); have sL := g6 _ (List.getElem_mem hs); have sU := g7 _ (List.getElem_mem (by omega : side < U.length)); have eL : L.getD side 0 = L[side] := by simp [List.getD_eq_getElem?_getD, hs]
 have eU : U.getD side 0 = U[side] := by simp [List.getD_eq_getElem?_getD, (by omega : side < U.length)]
 rw [eL, eU]; generalize L[side] = a at c1 sL; generalize U[side] = c at c2 sU; refine A2 ?_; simp +decide only [sQ]; refine A0 ?_; simp only [sS, Nat.zero_add, Nat.add_zero, B7 hb4.blk, i1, c1, i2, c2]; refine (A6k _ a k H4 (Nat.le_refl _) (by omega) (by omega)).use ?_; rintro _ H5 ⟨⟨N, K, rfl, hd⟩, hx5⟩ _; have hn5 := hx5.next; simp only [sS]; refine (A6k lim c k H5 (by omega) (by omega) (by omega)).mono ?_; rintro _ H6 ⟨⟨N2, K2, rfl, hd2⟩, hx6⟩; have hn6 := hx6.next; have k1 : H6.blk H1.next = some [.int .i64 0, .int .i64 0] := by rw [hx6.blk _ (by omega), hx5.blk _ (by omega), hx4.blk _ (by omega)]; exact hyb3
 have k2 : H6.blk H2.next = some [.int .i64 0, .int .i64 0] := by rw [hx6.blk _ (by omega), hx5.blk _ (by omega), hx4.blk _ (by omega)]; exact hzb
 have st1 : C8 lim H6 2 (.pointer (some ⟨H1.next, 0, none⟩)) (dyV N K) = some (undef, H6.put H1.next [.int .i64 N, .int .i64 (K : Int)]) := X4 (by omega) k1; have k3 : (H6.put H1.next [.int .i64 N, .int .i64 (K : Int)]).blk H2.next = some [.int .i64 0, .int .i64 0] := by rw [K5 _ _ (by omega)]; exact k2
 have st2 : C8 lim (H6.put H1.next [.int .i64 N, .int .i64 (K : Int)]) 2 (.pointer (some ⟨H2.next, 0, none⟩)) (dyV N2 K2) = some (undef, (H6.put H1.next [.int .i64 N, .int .i64 (K : Int)]).put H2.next [.int .i64 N2, .int .i64 (K2 : Int)]) := X4 (by omega) k3; simp only [sS, st1, st2]; refine A3 ?_; have ld2 : D5 ((H6.put H1.next [.int .i64 N, .int .i64 (K : Int)]).put H2.next [.int .i64 N2, .int .i64 (K2 : Int)]) 2 (.pointer (some ⟨H2.next, 0, none⟩)) = some (dyV N2 K2) := Z9 (D3 _ _ _); have ld1 : D5 ((H6.put H1.next [.int .i64 N, .int .i64 (K : Int)]).put H2.next [.int .i64 N2, .int .i64 (K2 : Int)]) 2 (.pointer (some ⟨H1.next, 0, none⟩)) = some (dyV N K) := Z9 (by rw [K5 _ _ (by omega)]; exact D3 _ _ _); simp +decide only [sQ, ld1, ld2]; rw [hd, hd2]; have hx06 := hx03.trans (hx4.trans (hx5.trans hx6)); exact ⟨rfl, Chg.ext (Chg.ext hx06 (Chg.put _ _ _) (by omega)) (Chg.put _ _ _) (by omega)⟩
end Go.Proofs.YtmdeppkfboaepaaGreat
namespace Go.Proofs.YtmdeppkfboaepaaGreat
open Go.Ab Ints
theorem C98 (lim : Nat) (s bl bu : Value) (ss : List (List Tm)) (q K t n : Nat) (L U : List Int) (H : A1) (hl : lim ≤ H.next) (hs : l3 H s ss) (hv : Ints.T0 H q K bl bu L U) (hq : q < H.next) (hg : G0 K L U = true) (hK : K ≤ 4) (ht : t ≤ 2) (hL : L.length = n) (hss : P7 ss = true) (hn : ss.length = n) :
 A5 Tryz.prog lim A7h [s, .pointer (some ⟨q, 0, none⟩), .int .i64 t] H fun v H' => A4d H' H.next v (miR ss n (W1 K t n L U)) ∧ Ext H H' := by
 have hpc := fun (x : Bx3) hx h4 => C21 (x := x) (t := t) hg hK ht hL hss hn hx h4
 obtain ⟨_, _, q3, q4, q5, _, _⟩ := F7 hg; have hDl := B2j (K := K) (t := t) (n := n) (L := L) (U := U) (by omega) ht; have hpp := B5y hss; refine A6p.go rfl ?_; unfold u9; refine A0 ?_; simp only [sS]; refine A0 ?_; simp only [sS]; refine (C8e lim q K t n bl bu L U H hl hv hq hg hK ht hL).mono ?_; rintro _ H2 ⟨⟨pv, es, b, rfl, hD, hG⟩, hx2⟩; have hn2 := hx2.next; have hD : es.map dat = W1 K t n L U := hD; generalize W1 K t n L U = D at hD hpc hDl ⊢; have hlen : es.length = D.length := by have := congrArg List.length hD; simpa using this
 simp only [sS]; refine A9 ?_; simp only [sS]; refine C4.false_ (A2 ?_); simp +decide only [sQ]; refine A0 ?_; simp only [sS]; refine C7 (A0 ?_); simp only [sS, hG.slb.lenV]; refine A7 ?_; refine B9 (fun j e' H' => ∃ (m b8 : Nat) (out x8 : Value), m + j = es.length ∧ C0 H' b8 out (zl (B9c ss n D m)) ∧ H2.next ≤ b8 ∧ (b8 < H'.next ∨ (out = .slice none 0 0 ∧ zl (B9c ss n D m) = [])) ∧ (∀ x ∈ D.take m, x.1 ≤ 4) ∧ Ext H2 H' ∧ e' = [s, .pointer (some ⟨q, 0, none⟩), .int .i64 t, .slice none 0 0, .bool false, pv, .bool true, out, x8, .int .i64 es.length, .int .i64 m]) es.length ⟨0, H2.next, .slice none 0 0, _, by omega, Vec.nil _ _ _, Nat.le_refl _, .inr ⟨rfl, rfl⟩, by simp, Ext.refl _, rfl⟩ ?_; rintro j e' H3 ⟨m, b8, out, x8, hmj, hv8, hb8, hst8, h4, hx3, rfl⟩; have hn3 := hx3.next; refine A9 ?_; simp only [sS]; refine C4.split (fun hlt => ?_) (fun hlt => ?_)
 ·have hm : m < es.length := by have := of_decide_eq_true hlt; omega
  have hmD : m < D.length := by omega
  obtain ⟨u1, u2, hbx⟩ := (hG.ext hx3).boxQ hm; have hdx := A3s hD hm hmD; have hids := B9m (ss := ss) (n := n) hmD; have hidl := B7d ss n D m; have hno := D0j (ss := ss) (n := n) hmD; have hpc' := hpc D[m] (List.getElem_mem hmD); have h4' : D[m].1 ≤ 4 → ∀ x ∈ D.take (m + 1), x.1 ≤ 4 := by
   intro h x hx; rw [List.take_succ_eq_append_getElem hmD] at hx; rcases List.mem_append.1 hx with hx | hx
   ·exact h4 x hx
   ·rw [List.mem_singleton] at hx; rw [hx]; exact h
  generalize D[m] = dm at *
  generalize es[m] = x at *
  obtain ⟨xk, xs, xt, xlo, xhi⟩ := x; obtain rfl : (xk, xlo, xhi) = dm := hdx; simp only at hbx; refine A2 ?_; simp +decide only [sQ]; refine A8 ?_; refine A0 ?_; simp only [sS]; refine A9 ?_; simp only [sS, u1, Nat.add_zero, hbx.c0]; refine C4.split (fun hlt2 => ?_) (fun hlt2 => ?_)
  ·have hk : 4 < xk := by have := of_decide_eq_true hlt2; omega
   refine A0 ?_; simp only [sS]; refine A3 ?_; simp +decide only [sQ]; rw [hno hk]; exact ⟨⟨_, rfl, .inl ⟨rfl, rfl⟩⟩, hx2.trans hx3⟩
  ·have hk : xk ≤ 4 := by have := of_decide_eq_false hlt2; omega
   have hc := hpc' hk; refine A2 ?_; simp +decide only [sQ]; have hx03 := hx2.trans hx3; have hl6 := B3s (k := xk) (ss := ss) (L := xlo) (U := xhi) hc.n3; have hcall : A5 Tryz.prog lim o9 [s, .pointer (some ⟨b, m * 3, none⟩)] H3 _ := B1p lim s xs xt ss xlo xhi xk n b H3 (by omega) (hs.ext hx03) hbx u2 hc (fun p hp => by rw [← hn]; exact hpp p hp) hn; refine E1 ?_; simp only [sS, u1]; refine hcall.mono ?_; rintro w H5 ⟨hw, hx5⟩; simp only [sS, hw.slss.lenV]; refine C4.split (fun hlt3 => ?_) (fun hlt3 => ?_)
   ·have hp : pB ss n (xk, xlo, xhi) = true := by
     have := of_decide_eq_true hlt3; rw [List.length_map] at this; exact decide_eq_true (by simp only; omega)
    have hn5 := hx5.next; rw [hp, if_pos rfl] at hids; obtain ⟨v', H6, b', e1, e2, e3, e4, e5, e6⟩ := n5 (lim := lim) (bytes := 8) (hv8.ext hx5) (vi (m : Int)) (by omega) (by rw [F4]; omega); refine A4 ?_; simp only [sS, L7 _ (.int .i64 0) (x := .int .i64 (m : Int)) rfl, e1]; simp +decide only [sQ]; refine A4 ?_; simp only [sS, D6 (i := m) (by omega)]; simp +decide only [sQ]; refine C6.mk (j - 1) (by omega) ⟨m + 1, b', v', _, by omega, ?_, by rcases e3 with h | h <;> omega, .inl e4, h4' hk, Chg.ext (hx3.trans hx5) e5 hb8, rfl⟩; rw [hids, B0f]; exact C0.snoc e2
   ·have hp : pB ss n (xk, xlo, xhi) = false := by
     have := of_decide_eq_false hlt3; rw [List.length_map] at this; exact decide_eq_false (by simp only; omega)
    rw [hp, if_neg (by decide), List.append_nil] at hids; refine A2 ?_; simp +decide only [sQ]; refine A4 ?_; simp only [sS, D6 (i := m) (by omega)]; simp +decide only [sQ]; have hn5 := hx5.next; refine C6.mk (j - 1) (by omega) ⟨m + 1, b8, out, _, by omega, by rw [hids]; exact hv8.ext hx5, hb8, by rw [hids]; exact hst8.imp (fun h => by omega) id, h4' hk, hx3.trans hx5, rfl⟩
 ·have hm : m = es.length := by have := of_decide_eq_false hlt; omega
  subst hm; refine B8 ?_; simp +decide only [sQ, reduceIte]; rw [hlen] at hv8 hst8 h4; rw [List.take_length] at h4; refine A0 ?_; simp only [sS]; refine A3 ?_; simp +decide only [sQ]; rw [C6s h4]; refine ⟨⟨_, rfl, ?_⟩, hx2.trans hx3⟩; rcases hst8 with h | h
  ·exact .inr ⟨b8, by omega, h, hv8⟩
  ·exact .inl h
end Go.Proofs.YtmdeppkfboaepaaGreat
namespace Go.Proofs.YtmdeppkfboaepaaGreat
open Go.Ab Ints
theorem B01 {ss : List (List Tm)} {k : Int} {L U : List Int} (h : A48 ss k L U = true) : ∃ K n : Nat, k = K ∧ ss.length = n ∧ L.length = n ∧ G0 (K : Int) L U = true ∧ K ≤ 4 ∧ P7 ss = true := by
 simp only [A48, Bool.and_eq_true, decide_eq_true_eq] at h; obtain ⟨⟨⟨h1, h2⟩, h3⟩, h4⟩ := h; have h4' : ss.length = L.length := by have := h4; simp at this; omega
 obtain ⟨g1, _⟩ := F7 h2; obtain ⟨K, rfl⟩ : ∃ K : Nat, k = K := ⟨k.toNat, by omega⟩; exact ⟨K, ss.length, rfl, rfl, by omega, h2, by omega, h1⟩
theorem A4d.low {H : A1} {lo lo' : Nat} {v : Value} {r : Option (List Nat)} (h : A4d H lo v r) (hl : lo' ≤ lo) : A4d H lo' v r := by
 obtain ⟨x, rfl, g⟩ := h; refine ⟨x, rfl, ?_⟩; rcases g with h | ⟨c, c1, c2, c3⟩
 ·exact .inl h
 ·exact .inr ⟨c, by omega, c2, c3⟩
def B2d (times : Int) : Bool := decide (0 ≤ times) && decide (times ≤ 2)
def mpR (ss : List (List Tm)) (k : Int) (L U : List Int) (times : Int) : Option (List Nat) := if A48 ss k L U && B2d times then miR ss ss.length (W1 k.toNat times.toNat ss.length L U) else none
theorem D0k (lim : Nat) (s v : Value) (K : Int) (times : Int) (L U : List Int) (H : A1) (hl : lim ≤ H.next) (hv : V6 H v K L U) (hL : L.length ≤ 1000000) (hU : U.length ≤ 1000000) (hno : B2d times = false) :
 A5 Tryz.prog lim S2 [s, v, .int .i64 times] H fun v H' => A4d H' H.next v none ∧ Ext H H' := by
 obtain ⟨ls, us, rfl, hls, hus⟩ := hv; refine A4x.go rfl ?_; unfold A0s; refine A0 ?_; simp only [sS, M5, C2]; have hx := Ext.alloc H [.int .i64 (K : Int), ls, us]; have hbp : (H.alloc [.int .i64 (K : Int), ls, us]).blk H.next = some [.int .i64 (K : Int), ls, us] := A6 _ _; generalize H.alloc [.int .i64 (K : Int), ls, us] = H1 at hx hbp ⊢; have hn1 := hx.next; refine A0 ?_; simp only [sS, E9 hbp]; refine (C3e lim _ K times L U H1 (by omega) ⟨ls, us, rfl, SlI.ext hls hx, SlI.ext hus hx⟩ hL hU hno).mono ?_; rintro _ H2 ⟨rfl, hx2⟩; simp only [sS]; refine A9 ?_; simp only [sS]; refine C4.true_ ?_; refine A0 ?_; simp only [sS]; refine A3 ?_; simp +decide only [sQ]; exact ⟨⟨_, rfl, .inl ⟨rfl, rfl⟩⟩, hx.trans hx2⟩
theorem C14 (lim : Nat) (s v : Value) (ss : List (List Tm)) (k : Int) (L U : List Int) (times : Int) (H : A1) (hl : lim ≤ H.next) (hs : l3 H s ss) (hv : V6 H v k L U) (hn : ss.length ≤ 1000000) (hn2 : ∀ p ∈ ss, p.length ≤ 1000000) (hL : L.length ≤ 1000000) (hU : U.length ≤ 1000000) :
 A5 Tryz.prog lim A7j [s, v, .int .i64 times] H fun v H' => A4d H' H.next v (mpR ss k L U times) ∧ Ext H H' := by
 obtain ⟨ls, us, rfl, hls, hus⟩ := hv; refine A5s.go rfl ?_; unfold w7; refine A0 ?_; simp only [sS, M5, C2]; have hx := Ext.alloc H [.int .i64 (k : Int), ls, us]; have hbp : (H.alloc [.int .i64 (k : Int), ls, us]).blk H.next = some [.int .i64 (k : Int), ls, us] := A6 _ _; have hbl : H.next < (H.alloc [.int .i64 k, ls, us]).next := Nat.lt_succ_self _; generalize H.alloc [.int .i64 (k : Int), ls, us] = H1 at hx hbp hbl ⊢; have hn1 := hx.next; refine J1 (!A48 ss k L U) (Ext H1) ?_ (fun H2 hx2 hg => ?_) (fun H2 hx2 hg => ?_)
 ·simp only [sS, E9 hbp]; refine (B53 lim s _ ss k L U H1 (by omega) (hs.ext hx) ⟨_, _, rfl, SlI.ext hls hx, SlI.ext hus hx⟩ hn hn2 hL hU).mono ?_; rintro _ H2 ⟨rfl, hx2⟩; simp only [sS]; exact ⟨trivial, trivial, hx2⟩
 ·refine A0 ?_; simp only [sS]; refine A3 ?_; simp +decide only [sQ]; simp only [Bool.not_eq_true'] at hg; unfold mpR; rw [hg]; exact ⟨⟨_, rfl, .inl ⟨rfl, rfl⟩⟩, hx.trans hx2⟩
 simp only [Bool.not_eq_false'] at hg; have hn2' := hx2.next; have hx02 := hx.trans hx2; have hb2 : H2.blk H.next = some [.int .i64 k, ls, us] := by rw [hx2.blk _ hbl]; exact hbp
 have hfin : ∀ r, r = mpR ss k L U times → A5 Tryz.prog lim S2 [s, .agg #[.int .i64 k, ls, us], .int .i64 times] H2 (fun v H' => A4d H' H2.next v r ∧ Ext H2 H') → A5 Tryz.prog lim S2 [s, .agg #[.int .i64 k, ls, us], .int .i64 times] H2 fun v H' => A4d H' H.next v (mpR ss k L U times) ∧ Ext H H' := by
  rintro r rfl h; exact h.mono fun v H' ⟨h1, h2⟩ => ⟨h1.low (by omega), hx02.trans h2⟩
 have hcall : A5 Tryz.prog lim S2 [s, .agg #[.int .i64 k, ls, us], .int .i64 times] H2 fun v H' => A4d H' H.next v (mpR ss k L U times) ∧ Ext H H' := by
  cases ht : B2d times with
  | false =>
    refine hfin none (by unfold mpR; rw [hg, ht]; rfl) ?_; exact D0k lim s _ k times L U H2 (by omega) ⟨_, _, rfl, SlI.ext hls hx02, SlI.ext hus hx02⟩ hL hU ht
  | true =>
    obtain ⟨K, n, rfl, e1, e2, e3, e4, e5⟩ := B01 hg; have ht' : 0 ≤ times ∧ times ≤ 2 := by simpa [B2d] using ht
    obtain ⟨t, rfl⟩ : ∃ t : Nat, times = t := ⟨times.toNat, by omega⟩; refine hfin (miR ss n (W1 K t n L U)) (by unfold mpR; rw [hg, ht, e1]; rfl) ?_; exact C81 lim s _ ss K t n L U H2 (by omega) (hs.ext hx02) ⟨_, _, rfl, SlI.ext hls hx02, SlI.ext hus hx02⟩ e3 e4 (by omega) e2 e5 e1
 refine A2 ?_; simp +decide only [sQ]; refine A0 ?_; simp only [sS, E9 hb2]; refine hcall.mono ?_; rintro _ H3 ⟨⟨x, rfl, hx3⟩, hx4⟩; simp only [sS]; refine A3 ?_; simp +decide only [sQ]; exact ⟨⟨_, rfl, hx3⟩, hx4⟩
theorem B1s (lim : Nat) (s v : Value) (ss : List (List Tm)) (k : Int) (L U : List Int) (times : Int) (H : A1) (hl : lim ≤ H.next) (hs : l3 H s ss) (hv : V6 H v k L U) (hn : ss.length ≤ 1000000) (hn2 : ∀ p ∈ ss, p.length ≤ 1000000) (hL : L.length ≤ 1000000) (hU : U.length ≤ 1000000) :
 A5 Tryz.prog lim A7f [s, v, .int .i64 times] H fun v H' => A4d H' H.next v (mpR ss k L U times) ∧ Ext H H' := by
 obtain ⟨ls, us, rfl, hls, hus⟩ := hv; refine A5u.go rfl ?_; unfold u8; refine A0 ?_; simp only [sS, M5, C2]; have hx := Ext.alloc H [.int .i64 (k : Int), ls, us]; have hbp : Ints.T0 (H.alloc [.int .i64 k, ls, us]) H.next k ls us L U := ⟨A6 _ _, SlI.ext hls hx, SlI.ext hus hx⟩; have hbl : H.next < (H.alloc [.int .i64 k, ls, us]).next := Nat.lt_succ_self _; generalize H.alloc [.int .i64 (k : Int), ls, us] = H1 at hx hbp hbl ⊢; have hn1 := hx.next; refine J1 (!(A48 ss k L U && B2d times)) (Ext H1) ?_ (fun H2 hx2 hg => ?_) (fun H2 hx2 hg => ?_)
 ·simp only [sS]; refine (A8h lim s ls us ss k L U H.next H1 (by omega) (hs.ext hx) hbp hbl hn hn2 hL hU).mono ?_; rintro _ H2 ⟨rfl, hx2⟩; have hb2 := hbp.ext hbl hx2; rw [C2c]; cases h1 : B96 ss k L U
  ·simp only [sS]; exact ⟨by simp, trivial, hx2⟩
  simp only [sS, Nat.zero_add, B7 hb2.blk]; by_cases h2 : k > 4
  ·have d1 : decide (k > 4) = true := decide_eq_true h2; have d2 : decide (k ≤ 4) = false := decide_eq_false (by omega); simp only [sS, d1, d2]; exact ⟨by simp, trivial, hx2⟩
  ·have d1 : decide (k > 4) = false := decide_eq_false h2; have d2 : decide (k ≤ 4) = true := decide_eq_true (by omega); simp only [sS, d1, d2]; refine (J7 _ _ _ _ _).eq ?_; simp only [sS]; exact ⟨by simp [B2d], trivial, hx2⟩
 ·refine A0 ?_; simp only [sS]; refine A3 ?_; simp +decide only [sQ]; simp only [Bool.not_eq_true'] at hg; unfold mpR; rw [hg]; exact ⟨⟨_, rfl, .inl ⟨rfl, rfl⟩⟩, hx.trans hx2⟩
 simp only [Bool.not_eq_false', Bool.and_eq_true] at hg; obtain ⟨hg, ht⟩ := hg; have hn2' := hx2.next; have hx02 := hx.trans hx2; obtain ⟨K, n, rfl, e1, e2, e3, e4, e5⟩ := B01 hg; have ht' : 0 ≤ times ∧ times ≤ 2 := by simpa [B2d] using ht
 obtain ⟨t, rfl⟩ : ∃ t : Nat, times = t := ⟨times.toNat, by omega⟩; have hR : mpR ss K L U t = miR ss n (W1 K t n L U) := by unfold mpR; rw [hg, ht, e1] <;> rfl
 refine A2 ?_; simp +decide only [sQ]; refine A0 ?_; simp only [sS]; refine (C98 lim s ls us ss H.next K t n L U H2 (by omega) (hs.ext hx02) (hbp.ext hbl hx2) (by omega) e3 e4 (by omega) e2 e5 e1).mono ?_; rintro _ H3 ⟨⟨x, rfl, hx3⟩, hx4⟩; simp only [sS]; refine A3 ?_; simp +decide only [sQ]; rw [hR]; exact ⟨A4d.low ⟨_, rfl, hx3⟩ (by omega), hx02.trans hx4⟩
def lmF (ss : List (List Tm)) (n K : Nat) (L U : List Int) : Nat → Nat → Int × Bool
 | _, 0 => (0, false)
 | t, f + 1 => match miR ss n (W1 K t n L U) with
   | none => (0, false)
   | some [] => lmF ss n K L U (t + 1) f
   | some (_ :: _) => (t, true)
def lmR (ss : List (List Tm)) (k : Int) (L U : List Int) : Int × Bool := if A48 ss k L U then lmF ss ss.length k.toNat L U 0 3 else (0, false)
theorem C7j (lim : Nat) (s v : Value) (ss : List (List Tm)) (k : Int) (L U : List Int) (H : A1) (hl : lim ≤ H.next) (hs : l3 H s ss) (hv : V6 H v k L U) (hn : ss.length ≤ 1000000) (hn2 : ∀ p ∈ ss, p.length ≤ 1000000) (hL : L.length ≤ 1000000) (hU : U.length ≤ 1000000) :
 A5 Tryz.prog lim A2l [s, v] H fun v H' => v = .tuple #[.int .i64 (lmR ss k L U).1, .bool (lmR ss k L U).2] ∧ Ext H H' := by
 obtain ⟨ls, us, rfl, hls, hus⟩ := hv; refine A1o.go rfl ?_; unfold U5; refine A0 ?_; simp only [sS, M5, C2]; have hx := Ext.alloc H [.int .i64 (k : Int), ls, us]; have hbp : (H.alloc [.int .i64 (k : Int), ls, us]).blk H.next = some [.int .i64 (k : Int), ls, us] := A6 _ _; have hbl : H.next < (H.alloc [.int .i64 k, ls, us]).next := Nat.lt_succ_self _; generalize H.alloc [.int .i64 (k : Int), ls, us] = H1 at hx hbp hbl ⊢; have hn1 := hx.next; refine J1 (!A48 ss k L U) (Ext H1) ?_ (fun H2 hx2 hg => ?_) (fun H2 hx2 hg => ?_)
 ·simp only [sS, E9 hbp]; refine (B53 lim s _ ss k L U H1 (by omega) (hs.ext hx) ⟨_, _, rfl, SlI.ext hls hx, SlI.ext hus hx⟩ hn hn2 hL hU).mono ?_; rintro _ H2 ⟨rfl, hx2⟩; simp only [sS]; exact ⟨trivial, trivial, hx2⟩
 ·refine A0 ?_; simp only [sS]; refine A3 ?_; simp +decide only [sQ]; simp only [Bool.not_eq_true'] at hg; unfold lmR; rw [hg]; exact ⟨rfl, hx.trans hx2⟩
 simp only [Bool.not_eq_false'] at hg; have hn2' := hx2.next; have hx02 := hx.trans hx2; obtain ⟨K, n, rfl, e1, e2, e3, e4, e5⟩ := B01 hg; have hR : lmR ss K L U = lmF ss n K L U 0 3 := by unfold lmR; rw [hg, e1] <;> rfl
 generalize lmR ss K L U = R at hR ⊢; refine A2 ?_; simp +decide only [sQ]; refine C7 (A0 ?_); simp only [sS]; refine A7 ?_; refine B9 (fun j e' H' => ∃ (t : Nat) (x6 x7 : Value), t + j = 3 ∧ R = lmF ss n K L U t j ∧ Ext H H' ∧ H'.blk H.next = some [.int .i64 K, ls, us] ∧ H.next < H'.next ∧ e' = [s, .agg #[.int .i64 K, ls, us], .pointer (some ⟨H.next, 0, none⟩), .int .i64 0, .bool false, .int .i64 t, x6, x7]) 3 ⟨0, _, _, rfl, hR, hx02, by rw [hx2.blk _ hbl]; exact hbp, by omega, rfl⟩ ?_; rintro j e' H3 ⟨t, x6, x7, htj, hRt, hx3, hb3, hl3, rfl⟩; have hn3 := hx3.next; refine A9 ?_; simp only [sS]; refine C4.split (fun hlt => ?_) (fun hlt => ?_)
 ·have ht : t ≤ 2 := by have := of_decide_eq_true hlt; omega
  obtain ⟨f, rfl⟩ : ∃ f, j = f + 1 := ⟨j - 1, by omega⟩; rw [lmF] at hRt; refine A2 ?_; simp +decide only [sQ]; refine A8 ?_; refine A0 ?_; simp only [sS, E9 hb3]; refine (C81 lim s _ ss K t n L U H3 (by omega) (hs.ext hx3) ⟨_, _, rfl, SlI.ext hls hx3, SlI.ext hus hx3⟩ e3 e4 ht e2 e5 e1).mono ?_; generalize miR ss n (W1 K t n L U) = r at hRt; rintro _ H4 ⟨⟨x, rfl, ho⟩, hx4⟩; have hn4 := hx4.next; have hx04 := hx3.trans hx4; cases r with
  | none =>
    simp only [sS]; refine A9 ?_; simp only [sS, Option.isSome_none]; refine C4.true_ ?_; refine A0 ?_; simp only [sS]; refine A3 ?_; simp +decide only [sQ]; exact ⟨by rw [hRt] <;> rfl, hx04⟩
  | some l =>
    have hlen := ho.sl.lenV; simp only [Option.getD_some, F4] at hlen; simp only [sS]; refine A9 ?_; simp only [sS, Option.isSome_some]; refine C4.false_ (A2 ?_); simp +decide only [sQ]; refine E1 ?_; simp only [sS, hlen]; refine C4.split (fun hlt2 => ?_) (fun hlt2 => ?_)
    ·cases l with
     | nil => simp at hlt2
     | cons a l =>
       refine A0 ?_; simp only [sS]; refine A3 ?_; simp +decide only [sQ]; exact ⟨by rw [hRt] <;> rfl, hx04⟩
    ·cases l with
     | cons a l => simp at hlt2 <;> omega
     | nil =>
       refine A2 ?_; simp +decide only [sQ]; refine A4 ?_; simp only [sS, D6 (i := t) (by omega)]; simp +decide only [sQ]; exact C6.mk f (by omega) ⟨t + 1, _, _, by omega, hRt, hx04, by rw [hx4.blk _ hl3]; exact hb3, by omega, rfl⟩
 ·have ht : t = 3 := by have := of_decide_eq_false hlt; omega
  obtain rfl : j = 0 := by omega
  refine B8 ?_; simp +decide only [sQ, reduceIte]; refine A0 ?_; simp only [sS]; refine A3 ?_; simp +decide only [sQ]; exact ⟨by rw [hRt] <;> rfl, hx3⟩
theorem C7i (lim : Nat) (s v : Value) (ss : List (List Tm)) (k : Int) (L U : List Int) (H : A1) (hl : lim ≤ H.next) (hs : l3 H s ss) (hv : V6 H v k L U) (hn : ss.length ≤ 1000000) (hn2 : ∀ p ∈ ss, p.length ≤ 1000000) (hL : L.length ≤ 1000000) (hU : U.length ≤ 1000000) :
 A5 Tryz.prog lim A2o [s, v] H fun v H' => v = .tuple #[.int .i64 (lmR ss k L U).1, .bool (lmR ss k L U).2] ∧ Ext H H' := by
 obtain ⟨ls, us, rfl, hls, hus⟩ := hv; refine A1w.go rfl ?_; unfold U7; refine A0 ?_; simp only [sS, M5, C2]; have hx := Ext.alloc H [.int .i64 (k : Int), ls, us]; have hbp : Ints.T0 (H.alloc [.int .i64 k, ls, us]) H.next k ls us L U := ⟨A6 _ _, SlI.ext hls hx, SlI.ext hus hx⟩; have hbl : H.next < (H.alloc [.int .i64 k, ls, us]).next := Nat.lt_succ_self _; generalize H.alloc [.int .i64 (k : Int), ls, us] = H1 at hx hbp hbl ⊢; have hn1 := hx.next; refine J1 (!A48 ss k L U) (Ext H1) ?_ (fun H2 hx2 hg => ?_) (fun H2 hx2 hg => ?_)
 ·simp only [sS]; refine (A8h lim s ls us ss k L U H.next H1 (by omega) (hs.ext hx) hbp hbl hn hn2 hL hU).mono ?_; rintro _ H2 ⟨rfl, hx2⟩; have hb2 := hbp.ext hbl hx2; rw [C2c]; cases h1 : B96 ss k L U
  ·simp only [sS]; exact ⟨by simp, trivial, hx2⟩
  simp only [sS, Nat.zero_add, B7 hb2.blk]; refine ⟨?_, trivial, hx2⟩; by_cases h2 : k > 4 <;> simp [h2] <;> omega
 ·refine A0 ?_; simp only [sS]; refine A3 ?_; simp +decide only [sQ]; simp only [Bool.not_eq_true'] at hg; unfold lmR; rw [hg]; exact ⟨rfl, hx.trans hx2⟩
 simp only [Bool.not_eq_false'] at hg; have hn2' := hx2.next; have hx02 := hx.trans hx2; obtain ⟨K, n, rfl, e1, e2, e3, e4, e5⟩ := B01 hg; have hR : lmR ss K L U = lmF ss n K L U 0 3 := by unfold lmR; rw [hg, e1] <;> rfl
 generalize lmR ss K L U = R at hR ⊢; refine A2 ?_; simp +decide only [sQ]; refine C7 (A0 ?_); simp only [sS]; refine A7 ?_; refine B9 (fun j e' H' => ∃ (t : Nat) (x5 x6 x7 : Value), t + j = 3 ∧ R = lmF ss n K L U t j ∧ Ext H H' ∧ Ints.T0 H' H.next K ls us L U ∧ H.next < H'.next ∧ e' = [s, .agg #[.int .i64 K, ls, us], .pointer (some ⟨H.next, 0, none⟩), .int .i64 0, .bool false, x5, x6, x7, .int .i64 t]) 3 ⟨0, _, _, _, rfl, hR, hx02, hbp.ext hbl hx2, by omega, rfl⟩ ?_; rintro j e' H3 ⟨t, x5, x6, x7, htj, hRt, hx3, hb3, hl3, rfl⟩; have hn3 := hx3.next; refine A9 ?_; simp only [sS]; refine C4.split (fun hlt => ?_) (fun hlt => ?_)
 ·have ht : t ≤ 2 := by have := of_decide_eq_true hlt; omega
  obtain ⟨f, rfl⟩ : ∃ f, j = f + 1 := ⟨j - 1, by omega⟩; rw [lmF] at hRt; refine A2 ?_; simp +decide only [sQ]; refine A8 ?_; refine A0 ?_; simp only [sS]; refine A0 ?_; simp only [sS]; refine (C98 lim s ls us ss H.next K t n L U H3 (by omega) (hs.ext hx3) hb3 hl3 e3 e4 ht e2 e5 e1).mono ?_; generalize miR ss n (W1 K t n L U) = r at hRt; rintro _ H4 ⟨⟨x, rfl, ho⟩, hx4⟩; have hn4 := hx4.next; have hx04 := hx3.trans hx4; cases r with
  | none =>
    simp only [sS]; refine A9 ?_; simp only [sS, Option.isSome_none]; refine C4.true_ ?_; refine A0 ?_; simp only [sS]; refine A3 ?_; simp +decide only [sQ]; exact ⟨by rw [hRt] <;> rfl, hx04⟩
  | some l =>
    have hlen := ho.sl.lenV; simp only [Option.getD_some, F4] at hlen; simp only [sS]; refine A9 ?_; simp only [sS, Option.isSome_some]; refine C4.false_ (A2 ?_); simp +decide only [sQ]; refine E1 ?_; simp only [sS, hlen]; refine C4.split (fun hlt2 => ?_) (fun hlt2 => ?_)
    ·cases l with
     | nil => simp at hlt2
     | cons a l =>
       refine A0 ?_; simp only [sS]; refine A3 ?_; simp +decide only [sQ]; exact ⟨by rw [hRt] <;> rfl, hx04⟩
    ·cases l with
     | cons a l => simp at hlt2 <;> omega
     | nil =>
       refine A2 ?_; simp +decide only [sQ]; refine A4 ?_; simp only [sS, D6 (i := t) (by omega)]; simp +decide only [sQ]; exact C6.mk f (by omega) ⟨t + 1, _, _, _, by omega, hRt, hx04, hb3.ext hl3 hx4, by omega, rfl⟩
 ·have ht : t = 3 := by have := of_decide_eq_false hlt; omega
  obtain rfl : j = 0 := by omega
  refine B8 ?_; simp +decide only [sQ, reduceIte]; refine A0 ?_; simp only [sS]; refine A3 ?_; simp +decide only [sQ]; exact ⟨by rw [hRt] <;> rfl, hx3⟩
end Go.Proofs.YtmdeppkfboaepaaGreat
namespace Go.Proofs.YtmdeppkfboaepaaGreat
open Go.Ab Ints
theorem C16 (lim : Nat) (a b : Value) (p q : List Int) (H : A1) (ha : SlI H a p) (hb : SlI H b q) (hn : p.length ≤ 1000000000) :
 A5 Tryz.prog lim B4e [a, b] H fun v H' => v = .bool (decide (p = q)) ∧ H' = H := by
 refine B13.go rfl ?_; unfold A42; refine A0 ?_; simp only [sS]; refine D7 (decide ((p.length : Int) ≠ (q.length : Int))) ?_ (fun hg => ?_) (fun hg => ?_)
 ·simp only [sS, ha.lenV, hb.lenV]; refine ⟨?_, trivial, trivial⟩
  congr 1
  rw [Bool.eq_iff_iff]; simp
 ·have hne : p ≠ q := by
   have := of_decide_eq_true hg; intro e; subst e; exact this rfl
  refine A0 ?_; simp only [sS]; refine A3 ?_; simp +decide only [sQ]; exact ⟨by simp [hne], trivial⟩
 have hlen : p.length = q.length := by
  have := of_decide_eq_false hg; omega
 refine A2 ?_; simp +decide only [sQ]; refine C7 (A0 ?_); simp only [sS, ha.lenV]; refine A7 ?_; refine B9 (fun k e' H' => H' = H ∧ ∃ (i : Nat) (x3 : Value), i + k = p.length ∧ (p = q ↔ p.drop i = q.drop i) ∧ e' = [a, b, .bool false, x3, .int .i64 p.length, .int .i64 i]) p.length ⟨rfl, 0, _, by omega, by simp, rfl⟩ ?_; rintro k e' H' ⟨rfl, i, x3, hik, hall, rfl⟩; refine A9 ?_; simp only [sS]; refine C4.split (fun hlt => ?_) (fun hlt => ?_)
 ·have hlt' : i < p.length := by simpa using hlt
  have hlt2 : i < q.length := by omega
  obtain ⟨b1, o1, h1, _, g1⟩ := SlI.get ha hlt'; obtain ⟨b2, o2, h2, _, g2⟩ := SlI.get hb hlt2; rw [List.drop_eq_getElem_cons hlt', List.drop_eq_getElem_cons hlt2] at hall; refine A2 ?_; simp +decide only [sQ]; refine A7 ?_; refine A0 ?_; simp only [sS]; refine D0 (p[i] != q[i]) ?_ (fun hg2 => ?_) (fun hg2 => ?_)
  ·simp only [sS, h1, h2, g1, g2]; simp
  ·have hne : p[i] ≠ q[i] := by simpa using hg2
   have : p ≠ q := by
    intro e; exact hne (List.cons.inj (hall.1 e)).1
   refine A0 ?_; simp only [sS]; refine A3 ?_; simp +decide only [sQ]; exact ⟨by simp [this], trivial⟩
  ·have he : p[i] = q[i] := by simpa using hg2
   refine A2 ?_; simp +decide only [sQ]; refine A4 ?_; simp only [sS, D6 (i := i) (by omega)]; simp +decide only [sQ]; refine C6.mk (k - 1) (by omega) ⟨rfl, i + 1, _, by omega, ?_, rfl⟩; rw [hall, List.cons.injEq]; exact ⟨fun h => h.2, fun h => ⟨he, h⟩⟩
 ·have hi : i = p.length := by simp at hlt; omega
  subst hi; have : p = q := hall.2 (by rw [List.drop_of_length_le (Nat.le_refl _), List.drop_of_length_le (by omega)]); refine B8 ?_; simp +decide only [sQ, reduceIte]; refine A0 ?_; simp only [sS]; refine A3 ?_; simp +decide only [sQ]; exact ⟨by simp [this], trivial⟩
theorem D3c (lim : Nat) (a b : Value) (n m : Nat) (ca cb : List Value) (H : A1) (ha : Sl H a n 1 ca) (hb : Sl H b m 1 cb) :
 A5 Tryz.prog lim C5c [a, b] H fun v H' => (∃ x : Bool, v = .bool x) ∧ H' = H := by
 refine C2i.go rfl ?_; unfold B62; refine A0 ?_; simp only [sS]; refine A0 ?_; cases h : decide ((n : Int) > 1048576)
 ·simp only [sS, ha.lenV, hb.lenV, h]; refine A3 ?_; simp +decide only [sQ]; exact ⟨⟨_, rfl⟩, trivial⟩
 ·simp only [sS, ha.lenV, h]; refine A3 ?_; simp +decide only [sQ]; exact ⟨⟨_, rfl⟩, trivial⟩
end Go.Proofs.YtmdeppkfboaepaaGreat
namespace Go.Proofs.YtmdeppkfboaepaaGreat
open Go.Ab Ints
theorem C2e {ss : List (List Tm)} {n K : Nat} {L U : List Int} : ∀ (f t : Nat), (lmF ss n K L U t f).2 = true → ∃ r : Nat, (lmF ss n K L U t f).1 = r ∧ t ≤ r ∧ r < t + f ∧ (∃ l, miR ss n (W1 K r n L U) = some l ∧ l ≠ []) ∧ ∀ j, t ≤ j → j < r → miR ss n (W1 K j n L U) = some []
 | 0, t, h => by simp [lmF] at h
 | f + 1, t, h => by
   rw [lmF] at h ⊢; cases hm : miR ss n (W1 K t n L U) with
   | none => rw [hm] at h; simp at h
   | some l =>
     rw [hm] at h; cases l with
     | nil =>
       obtain ⟨r, h1, h2, h3, h4, h5⟩ := C2e f (t + 1) h; refine ⟨r, h1, by omega, by omega, h4, fun j hj1 hj2 => ?_⟩; by_cases hj : j = t
       ·subst hj; exact hm
       ·exact h5 j (by omega) hj2
     | cons x l => exact ⟨t, rfl, Nat.le_refl _, by omega, ⟨_, hm, by simp⟩, fun j h1 h2 => by omega⟩
theorem C9p {ss : List (List Tm)} {k : Int} {L U : List Int} (h : (lmR ss k L U).2 = true) : (∃ l, mpR ss k L U (lmR ss k L U).1 = some l ∧ l ≠ []) ∧ ∀ times l, times < (lmR ss k L U).1 → mpR ss k L U times = some l → l = [] := by
 unfold lmR at h ⊢; cases ha : A48 ss k L U
 ·rw [ha] at h; simp at h
 ·rw [ha, if_pos rfl] at h; rw [if_pos rfl]; obtain ⟨r, h1, h2, h3, ⟨l, h4, h5⟩, h6⟩ := C2e 3 0 h; rw [h1]; refine ⟨⟨l, ?_, h5⟩, fun times l' ht hl => ?_⟩
  ·unfold mpR; rw [ha, show B2d (r : Int) = true by unfold B2d; simp; omega]; simpa using h4
  ·unfold mpR at hl; rw [ha] at hl; cases hi : B2d times
   ·rw [hi] at hl; simp at hl
   ·rw [hi] at hl; simp only [B2d, Bool.and_eq_true, decide_eq_true_eq] at hi; have := h6 times.toNat (by omega) (by omega); simp only [Bool.and_self, if_true, this] at hl; cases hl; rfl
theorem D1g {ss : List (List Tm)} {k : Int} {L U : List Int} {times : Int} : (zl ((mpR ss k L U times).getD [])).length ≤ 1000 := by
 have hz : ∀ l : List Nat, (zl l).length = l.length := fun l => by simp [zl]
 rw [hz]; unfold mpR; cases ha : A48 ss k L U
 ·simp
 cases hi : B2d times
 ·simp
 simp only [Bool.and_self, if_true]; obtain ⟨kn, n, _, hn, hc, _⟩ := C3h ha; simp only [B2d, Bool.and_eq_true, decide_eq_true_eq] at hi; unfold miR; split
 ·have h1 := B7d ss ss.length (W1 k.toNat times.toNat ss.length L U) (W1 k.toNat times.toNat ss.length L U).length; have h2 := B2j (K := k.toNat) (t := times.toNat) (n := ss.length) (L := L) (U := U) (by have := hc.n3; omega) (by omega); simp only [Option.getD_some]; omega
 ·simp
theorem C91 {p : List Tm} {k : Nat} {L U c : List Int} {side : Nat} {up : Bool} (hb : A3x p k L U = true) (hs : side < L.length) (hc : c ∈ crn L U) (hat : c.getD side 0 = if up then U.getD side 0 else L.getD side 0) (hne : fcS k p L U side up ≠ 0) : PtK p c k ∧ J5 (vk k c p) = fcS k p L U side up := by
 obtain ⟨q1, q2, q3, kn, hkn, hcr⟩ := A1k hb; obtain rfl : k = kn := by omega
 obtain ⟨g1, g2, g3, g4, g5, g6, g7⟩ := F7 q2; obtain ⟨hcl, hcm⟩ := B1c g5 hc; have hR : ∀ j, (L.getD j 0).natAbs ≤ 8 * 2 ^ k ∧ (U.getD j 0).natAbs ≤ 8 * 2 ^ k := by
  simp only [G0, Bool.and_eq_true, decide_eq_true_eq, Bool.not_eq_true', bne_eq_false_iff_eq] at q2; have hr := q2.1.2; rw [Int.toNat_natCast] at hr; have e : ((2 ^ k : Nat) : Int) = (2 : Int) ^ k := by push_cast; rfl
  have hp := I7 k; have hR := A50 hr g5 (by omega); intro j; have := hR j; omega
 have hK : PtK p c k := by
  refine ⟨hcr.hk, by omega, fun x hx => ?_, q1, by rw [hcl]; exact q3⟩; obtain ⟨j, hj, rfl⟩ := List.mem_iff_getElem.1 hx; have e : c.getD j 0 = c[j] := by simp [List.getD_eq_getElem?_getD, hj]
  rw [← e]; rcases hcm j (by omega) with h | h
  ·rw [h]; exact (hR j).1
  ·rw [h]; exact (hR j).2
 refine ⟨hK, ?_⟩; have hF := hcr.face (side := side) hs up; refine C3y (n := L.length) g3 g4 hcl hF.hL hF.hU q1 q3 (fun j hj => ?_) hne; have hj2 := hcm j (by omega); cases up
 ·simp only [R8, U4, Bool.false_eq_true, if_false] at hat ⊢; by_cases h : j = side
  ·subst h; exact .inl hat
  ·rw [U9 _ _ _ _ (by omega), if_neg h]; exact hj2
 ·simp only [R8, U4, if_true] at hat ⊢; by_cases h : j = side
  ·subst h; exact .inr hat
  ·rw [U9 _ _ _ _ (by omega), if_neg h]; exact hj2
theorem C0o {a b : Int} {k : Nat} (h : E6 a k = E6 b k) : a = b := by
 have h1 := (g9 a k).2; have h2 := (g9 b k).2; rw [h1, h2, h]
end Go.Proofs.YtmdeppkfboaepaaGreat
