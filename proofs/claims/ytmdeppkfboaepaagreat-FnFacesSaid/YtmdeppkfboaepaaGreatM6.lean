/- Parts of the proof of a statement of this seat: contracts of functions that the law calls, or the law's own row; no condition. -/
import Derived.Test.YtmdeppkfboaepaaGreatM5
set_option maxHeartbeats 8000000
set_option linter.unusedSimpArgs false
set_option linter.unusedVariables false
namespace Go.Proofs.YtmdeppkfboaepaaGreat
open Go.Ab Ints
theorem D10 {d0 d1 d2 n : Nat} (h : n < (d0 + 1) * (d1 + 1) * (d2 + 1)) : ∃ x y z, x ≤ d0 ∧ y ≤ d1 ∧ z ≤ d2 ∧ gp d1 d2 x y z = n := by
 have h1 : n / (d2 + 1) < (d0 + 1) * (d1 + 1) := Nat.div_lt_of_lt_mul (by rw [Nat.mul_comm]; exact h); have h2 : n / (d2 + 1) / (d1 + 1) < d0 + 1 := Nat.div_lt_of_lt_mul (by rw [Nat.mul_comm]; exact h1); have m1 := Nat.mod_lt (n / (d2 + 1)) (show 0 < d1 + 1 by omega); have m2 := Nat.mod_lt n (show 0 < d2 + 1 by omega); refine ⟨n / (d2 + 1) / (d1 + 1), n / (d2 + 1) % (d1 + 1), n % (d2 + 1), by omega, by omega, by omega, ?_⟩; unfold gp; rw [Nat.mul_comm (n / (d2 + 1) / (d1 + 1)), Nat.div_add_mod, Nat.mul_comm (n / (d2 + 1)), Nat.div_add_mod]
theorem IsG.sign {d0 d1 d2 : Nat} {A : List Int} {f : Nat → Nat → Nat → Int} (h : IsG d0 d1 d2 A f) (hx : ∀ x y z, x ≤ d0 → y ≤ d1 → z ≤ d2 → wr (f x y z) = f x y z) (g : List Nat → Int) (hg : ∀ x y z, g [x, y, z] = f x y z) :
 sg A = sg ((C5 [d0, d1, d2]).map g) := by
 refine C3b 1 (by decide) (fun v hv => ?_) (fun u hu => ?_)
 ·obtain ⟨n, hn, rfl⟩ := List.mem_iff_getElem.1 hv; obtain ⟨x, y, z, h1, h2, h3, h4⟩ := D10 (n := n) (by rw [← h.1]; exact hn); refine ⟨_, List.mem_map.2 ⟨[x, y, z], S1.2 ⟨rfl, fun s i m hi hm => ?_⟩, rfl⟩, ?_⟩
  ·match s with
   | 0 => simp at hi hm; omega
   | 1 => simp at hi hm; omega
   | 2 => simp at hi hm; omega
   | s + 3 => simp at hi
  ·have := h.2 x y z h1 h2 h3; rw [h4, hx x y z h1 h2 h3] at this; rw [hg, ← this, Int.one_mul]; simp [hn]
 ·obtain ⟨is, his, rfl⟩ := List.mem_map.1 hu; obtain ⟨h1, h2⟩ := S1.1 his
  match is, h1 with
  | [x, y, z], _ =>
    have a1 := h2 0 x d0 rfl rfl; have a2 := h2 1 y d1 rfl rfl; have a3 := h2 2 z d2 rfl rfl; have hlt : gp d1 d2 x y z < A.length := by rw [h.1]; exact B9t a1 a2 a3
    refine ⟨A[gp d1 d2 x y z], List.getElem_mem hlt, ?_⟩; have := h.2 x y z a1 a2 a3; rw [hx x y z a1 a2 a3] at this; rw [hg, ← this, Int.one_mul]; simp [hlt]
end Go.Proofs.YtmdeppkfboaepaaGreat
namespace Go.Proofs.YtmdeppkfboaepaaGreat
open Go.Ab Ints
theorem C72 {k : Nat} {deg : Int} {t : Tm} {a b c : Ax} {x y z : Nat} (hk : k ≤ 4) (hc : t.c.natAbs ≤ 1000) (hx0 : 0 ≤ t.x) (hy0 : 0 ≤ t.y) (hz0 : 0 ≤ t.z) (hd : t.x + t.y + t.z ≤ deg) (hd4 : deg ≤ 4)
 (ha : a.d ≤ 4) (hb : b.d ≤ 4) (hcd : c.d ≤ 4) (hx : x ≤ a.d) (hy : y ≤ b.d) (hz : z ≤ c.d)
 (a1 : a.lo.natAbs ≤ 128) (a2 : (a.hi - a.lo).natAbs ≤ 256) (b1 : b.lo.natAbs ≤ 128) (b2 : (b.hi - b.lo).natAbs ≤ 256) (c1 : c.lo.natAbs ≤ 128) (c2 : (c.hi - c.lo).natAbs ≤ 256) :
 ((tmC k deg t).1 * U1 [a, b, c] (tmC k deg t).2 [x, y, z]).natAbs ≤ 1000 * (12 * (12 * 12)) * 384 ^ 4 := by
 unfold tmC; simp only [U1, Int.mul_one, Int.natAbs_mul]; have p1 := C1b (e := t.x.toNat) ha (by omega) hx a1 a2; have p2 := C1b (e := t.y.toNat) hb (by omega) hy b1 b2; have p3 := C1b (e := t.z.toNat) hcd (by omega) hz c1 c2; generalize hn : (deg - t.x - t.y - t.z).toNat = n; have p4 : ((((2 : Int) ^ k) ^ n)).natAbs ≤ 384 ^ n := by
  refine B0o _ ?_ n; have h2 : ((2 : Int) ^ k).natAbs ≤ 2 ^ k := B0o 2 (by decide) k; have h3 : 2 ^ k ≤ 2 ^ 4 := Nat.pow_le_pow_right (by decide) hk; omega
 have q : 384 ^ n * (384 ^ t.x.toNat * (384 ^ t.y.toNat * 384 ^ t.z.toNat)) ≤ 384 ^ 4 := by
  rw [← Nat.pow_add, ← Nat.pow_add, ← Nat.pow_add]; exact Nat.pow_le_pow_right (by decide) (by omega)
 refine Nat.le_trans (Nat.mul_le_mul (Nat.mul_le_mul hc p4) (Nat.mul_le_mul p1 (Nat.mul_le_mul p2 p3))) ?_; refine Nat.le_trans (Nat.le_of_eq ?_) (Nat.mul_le_mul_left (1000 * (12 * (12 * 12))) q); generalize 384 ^ n = A; generalize 384 ^ t.x.toNat = B; generalize 384 ^ t.y.toNat = C; generalize 384 ^ t.z.toNat = D; simp only [Nat.mul_assoc, Nat.mul_comm, Nat.mul_left_comm]
end Go.Proofs.YtmdeppkfboaepaaGreat
namespace Go.Proofs.YtmdeppkfboaepaaGreat
open Go.Ab Ints
def B8v (a : Ax) : Prop := a.d ≤ 4 ∧ a.lo.natAbs ≤ 128 ∧ (a.hi - a.lo).natAbs ≤ 256
def D1p (deg : Int) (t : Tm) : Prop := t.c.natAbs ≤ 1000 ∧ 0 ≤ t.x ∧ 0 ≤ t.y ∧ 0 ≤ t.z ∧ t.x + t.y + t.z ≤ deg
theorem C6d {k : Nat} {deg : Int} {p : List Tm} {a b c : Ax} {x y z : Nat} (hk : k ≤ 4) (hd4 : deg ≤ 4) (hp : ∀ t ∈ p, D1p deg t) (hn : p.length ≤ 20)
 (ha : B8v a) (hb : B8v b) (hc : B8v c) (hx : x ≤ a.d) (hy : y ≤ b.d) (hz : z ≤ c.d) :
 wr (Q5 (p.map (tmC k deg)) [a, b, c] [x, y, z]) = Q5 (p.map (tmC k deg)) [a, b, c] [x, y, z] := by
 have h1 : (Q5 (p.map (tmC k deg)) [a, b, c] [x, y, z]).natAbs ≤ (p.map (tmC k deg)).length * (1000 * (12 * (12 * 12)) * 384 ^ 4) := by
  unfold Q5; refine C2d _ _ _ fun u hu => ?_
  obtain ⟨t, ht, rfl⟩ := List.mem_map.1 hu; obtain ⟨q1, q2, q3, q4, q5⟩ := hp t ht; exact C72 hk q1 q2 q3 q4 q5 hd4 ha.1 hb.1 hc.1 hx hy hz ha.2.1 ha.2.2 hb.2.1 hb.2.2 hc.2.1 hc.2.2
 rw [List.length_map] at h1; have h2 : p.length * (1000 * (12 * (12 * 12)) * 384 ^ 4) ≤ 20 * (1000 * (12 * (12 * 12)) * 384 ^ 4) := Nat.mul_le_mul_right _ hn; have h3 : 20 * (1000 * (12 * (12 * 12)) * 384 ^ 4) = 751447478108160000 := by decide
 refine E3 ?_ ?_ <;> omega
end Go.Proofs.YtmdeppkfboaepaaGreat
namespace Go.Proofs.YtmdeppkfboaepaaGreat
open Go.Ab Ints
theorem IsG.coef {k d0 d1 d2 : Nat} {deg : Int} {p : List Tm} {a b c : Ax} {A : List Int} (h : IsG d0 d1 d2 A (C2u d0 d1 d2 (A1z (p.map (tmC k deg)) a b c))) (ea : a.d = d0) (eb : b.d = d1) (ec : c.d = d2) (hk : k ≤ 4) (hd4 : deg ≤ 4) (hp : ∀ t ∈ p, D1p deg t) (hn : p.length ≤ 20)
 (ha : B8v a) (hb : B8v b) (hc : B8v c) : sg A = sg ((C5 ([a, b, c].map (·.d))).map (Proofs.YtmdeppkfboaepaaGreat.Q5 (p.map (tmC k deg)) [a, b, c])) := by
 subst ea eb ec; have key : ∀ x y z, x ≤ a.d → y ≤ b.d → z ≤ c.d → C2u a.d b.d c.d (A1z (p.map (tmC k deg)) a b c) x y z = Proofs.YtmdeppkfboaepaaGreat.Q5 (p.map (tmC k deg)) [a, b, c] [x, y, z] := fun x y z hx hy hz =>
  C7x (fun u hu => by obtain ⟨t, _, rfl⟩ := List.mem_map.1 hu; rfl) ha.1 hb.1 hc.1 hx hy hz
 exact IsG.sign (f := fun x y z => Proofs.YtmdeppkfboaepaaGreat.Q5 (p.map (tmC k deg)) [a, b, c] [x, y, z]) (h.congr key) (fun x y z hx hy hz => C6d hk hd4 hp hn ha hb hc hx hy hz) _ (fun _ _ _ => rfl)
theorem B84 (lim : Nat) (s l h : Value) (p : List Tm) (L U : List Int) (k d0 d1 d2 : Nat) (H : A1) (hl : lim ≤ H.next) (hs : SlT H s p) (hL : SlI H l L) (hU : SlI H h U) (hn : p.length ≤ 20) (hn1 : L.length ≤ 3) (hn2 : U.length = L.length) (hk : k ≤ 4)
 (hp : ∀ t ∈ p, D1p (E5 (-1) p) t) (hdeg4 : E5 (-1) p ≤ 4) (e0 : dgS p L U 0 = d0) (e1 : dgS p L U 1 = d1) (e2 : dgS p L U 2 = d2)
 (ha : B8v ⟨L.getD 0 0, U.getD 0 0, d0⟩) (hb : B8v ⟨L.getD 1 0, U.getD 1 0, d1⟩) (hc : B8v ⟨L.getD 2 0, U.getD 2 0, d2⟩) :
 A5 Tryz.prog lim A2n [s, l, h, .int .i64 k] H fun v H' => ∃ (a dd : Value) (A : List Int), v = .tuple #[a, dd] ∧ A ≠ [] ∧ A.length ≤ 1000 ∧
  sg A = sg ((C5 ([(⟨L.getD 0 0, U.getD 0 0, d0⟩ : Ax), ⟨L.getD 1 0, U.getD 1 0, d1⟩, ⟨L.getD 2 0, U.getD 2 0, d2⟩].map (·.d))).map (Q5 (p.map (tmC k (E5 (-1) p))) [⟨L.getD 0 0, U.getD 0 0, d0⟩, ⟨L.getD 1 0, U.getD 1 0, d1⟩, ⟨L.getD 2 0, U.getD 2 0, d2⟩])) ∧ SlI H' a A ∧ Ext H H' := by
 have hp' : ∀ t ∈ p, 0 ≤ t.x ∧ t.x ≤ 4 ∧ 0 ≤ t.y ∧ t.y ≤ 4 ∧ 0 ≤ t.z ∧ t.z ≤ 4 := fun t ht => by
  obtain ⟨_, q2, q3, q4, q5⟩ := hp t ht; omega
 have b0 : d0 ≤ 4 := ha.1; have b1 : d1 ≤ 4 := hb.1; have b2 : d2 ≤ 4 := hc.1; refine (D1l lim s l h (.int .i64 k) d0 d1 d2 _ H hl b0 b1 b2 (D1s lim s l h p L U k d0 d1 d2 H hl hs hL hU (by omega) hn1 hn2 hk hp' (fun t ht => (hp t ht).2.2.2.2) hdeg4 e0 e1 e2 b0 b1 b2)).mono ?_; rintro _ H' ⟨a, dd, A, rfl, hG, hA, hx⟩; have hsz : (d0 + 1) * (d1 + 1) * (d2 + 1) ≤ 1000 := Nat.le_trans (Nat.mul_le_mul (Nat.mul_le_mul (show d0 + 1 ≤ 5 by omega) (show d1 + 1 ≤ 5 by omega)) (show d2 + 1 ≤ 5 by omega)) (by decide); have hpos : (d0 + 1) * (d1 + 1) * (d2 + 1) ≠ 0 := Nat.mul_ne_zero (Nat.mul_ne_zero (by omega) (by omega)) (by omega); refine ⟨a, dd, A, rfl, ?_, by rw [hG.1]; exact hsz, hG.coef rfl rfl rfl hk hdeg4 hp hn ha hb hc, hA, hx⟩; rintro rfl; exact hpos hG.1.symm
end Go.Proofs.YtmdeppkfboaepaaGreat
namespace Go.Proofs.YtmdeppkfboaepaaGreat
open Go.Ab Ints
theorem C58 (k : Int) : ∀ (p : List Tm) (m n : Int), I3 k (if m > n then m else n) p = if m > I3 k n p then m else I3 k n p
 | [], m, n => rfl
 | t :: l, m, n => by
   rw [I3, I3]; have e : (if (if m > n then m else n) > pw t k then (if m > n then m else n) else pw t k) = if m > (if n > pw t k then n else pw t k) then m else (if n > pw t k then n else pw t k) := by
    by_cases h1 : m > n <;> by_cases h2 : n > pw t k <;> by_cases h3 : m > pw t k <;> simp only [h1, h2, h3, if_true, if_false] <;> omega
   rw [e]; exact C58 k l m _
theorem B9o (k : Int) (p : List Tm) : (if (0 : Int) > I3 k (-1) p then 0 else I3 k (-1) p) = I3 k 0 p := by
 rw [← C58]; rfl
theorem C1s (k : Int) : ∀ (p : List Tm) (m : Int), m ≤ I3 k m p
 | [], m => Int.le_refl _
 | t :: l, m => by
   rw [I3]; have := C1s k l (if m > pw t k then m else pw t k); split at this <;> rename_i h
   ·rw [if_pos h]; exact this
   ·rw [if_neg h]; omega
theorem B70 (k : Int) : ∀ (p : List Tm) (m : Int) (t : Tm), t ∈ p → pw t k ≤ I3 k m p
 | [], m, t, h => by simp at h
 | u :: l, m, t, h => by
   rw [I3]; rcases List.mem_cons.1 h with rfl | h
   ·have := C1s k l (if m > pw t k then m else pw t k); split at this <;> rename_i h
    ·rw [if_pos h]; omega
    ·rw [if_neg h]; exact this
   ·exact B70 k l _ t h
theorem C68 (k : Int) {B : Int} : ∀ (p : List Tm) (m : Int), m ≤ B → (∀ t ∈ p, pw t k ≤ B) → I3 k m p ≤ B
 | [], m, h, _ => h
 | u :: l, m, h, hp => by
   rw [I3]; refine C68 k l _ ?_ fun t ht => hp t (by simp [ht])
   have := hp u (by simp); split <;> omega
theorem C6n : ∀ (p : List Tm) (m : Int), m ≤ E5 m p
 | [], m => Int.le_refl _
 | t :: l, m => by
   rw [E5]; have := C6n l (if m > t.x + t.y + t.z then m else t.x + t.y + t.z); split at this <;> rename_i h
   ·rw [if_pos h]; exact this
   ·rw [if_neg h]; omega
theorem B5b : ∀ (p : List Tm) (m : Int) (t : Tm), t ∈ p → t.x + t.y + t.z ≤ E5 m p
 | [], m, t, h => by simp at h
 | u :: l, m, t, h => by
   rw [E5]; rcases List.mem_cons.1 h with rfl | h
   ·have := C6n l (if m > t.x + t.y + t.z then m else t.x + t.y + t.z); split at this <;> rename_i h
    ·rw [if_pos h]; omega
    ·rw [if_neg h]; exact this
   ·exact B5b l _ t h
theorem C5y {B : Int} : ∀ (p : List Tm) (m : Int), m ≤ B → (∀ t ∈ p, t.x + t.y + t.z ≤ B) → E5 m p ≤ B
 | [], m, h, _ => h
 | u :: l, m, h, hp => by
   rw [E5]; refine C5y l _ ?_ fun t ht => hp t (by simp [ht])
   have := hp u (by simp); split <;> omega
theorem A2d : ∀ (p : List Tm) (u : Option Tm), A0e u p = true → ∀ t ∈ p, Z6 t = true
 | [], _, _, t, h => by simp at h
 | a :: l, u, h, t, ht => by
   simp only [A0e, Bool.and_eq_true] at h; rcases List.mem_cons.1 ht with rfl | ht
   ·exact h.1.1.1
   ·exact A2d l _ h.2 t ht
theorem A09 {p : List Tm} (h : I1 p = true) : (∀ t ∈ p, D1p (E5 (-1) p) t ∧ 0 ≤ t.x ∧ t.x ≤ 4 ∧ 0 ≤ t.y ∧ t.y ≤ 4 ∧ 0 ≤ t.z ∧ t.z ≤ 4) ∧ E5 (-1) p ≤ 4 ∧ p.length ≤ 20 := by
 simp only [I1, Bool.and_eq_true, decide_eq_true_eq] at h; have hb : ∀ t ∈ p, (-1000 ≤ t.c ∧ t.c ≤ 1000 ∧ 0 ≤ t.x ∧ t.x ≤ 4 ∧ 0 ≤ t.y ∧ t.y ≤ 4 ∧ 0 ≤ t.z ∧ t.z ≤ 4) ∧ t.x + t.y + t.z ≤ 4 := fun t ht => by
  have h1 := A2d p none h.1 t ht; refine ⟨B7a h1, ?_⟩; simp only [Z6, Bool.and_eq_true, decide_eq_true_eq] at h1; exact h1.2
 refine ⟨fun t ht => ?_, C5y p _ (by omega) fun t ht => (hb t ht).2, by omega⟩; have h1 := hb t ht; have h2 := B5b p (-1) t ht; exact ⟨⟨by omega, by omega, by omega, by omega, h2⟩, by omega, by omega, by omega, by omega, by omega, by omega⟩
def dgI (p : List Tm) (k : Nat) : Nat := (I3 k 0 p).toNat
theorem B0d (p : List Tm) (k : Nat) : ((dgI p k : Nat) : Int) = I3 k 0 p := by
 have := C1s k p 0; unfold dgI; omega
theorem B23 {p : List Tm} (h : ∀ t ∈ p, 0 ≤ t.x ∧ t.x ≤ 4 ∧ 0 ≤ t.y ∧ t.y ≤ 4 ∧ 0 ≤ t.z ∧ t.z ≤ 4) (k : Nat) : dgI p k ≤ 4 := by
 have h1 := C68 (k : Int) (B := 4) p 0 (by decide) fun t ht => by
  have := h t ht; unfold pw; split
  ·omega
  ·split <;> omega
 have := B0d p k; omega
def axI (p : List Tm) (L U : List Int) (k : Nat) : Ax := ⟨L.getD k 0, U.getD k 0, dgI p k⟩
theorem B5w {n : Nat} {p : List Tm} (hn : 1 ≤ n) (h : I9 n p = true) (k : Nat) (hk : n ≤ k) (hk2 : k < 3) : I3 k (-1) p ≤ 0 := by
 simp only [I9, Bool.and_eq_true, Bool.or_eq_true, decide_eq_true_eq, Bool.not_eq_true', decide_eq_false_iff_not] at h; have : k = 1 ∨ k = 2 := by omega
 rcases this with rfl | rfl
 ·have h2 := h.1.2; rw [show ((1 : Nat) : Int) = 1 from rfl]; omega
 ·have h2 := h.2; rw [show ((2 : Nat) : Int) = 2 from rfl]; omega
theorem A3h {n : Nat} {p : List Tm} (hn : 1 ≤ n) (h : I9 n p = true) (k : Nat) (hk : n ≤ k) (hk2 : k < 3) : dgI p k = 0 ∧ ∀ t ∈ p, pw t k ≤ 0 := by
 have h1 := B5w hn h k hk hk2; refine ⟨?_, fun t ht => by have := B70 k p (-1) t ht; omega⟩; have h2 := B9o k p; have h3 := B0d p k; rw [← h2] at h3; split at h3 <;> omega
def u6 (k : Nat) (p : List Tm) : List (Int × List Nat) := p.map (tmC k (E5 (-1) p))
def A96 (k : Nat) (p : List Tm) (L U : List Int) : Int := sg ((C5 ([axI p L U 0, axI p L U 1, axI p L U 2].map (·.d))).map (Q5 (u6 k p) [axI p L U 0, axI p L U 1, axI p L U 2]))
theorem C0v {p : List Tm} {L U : List Int} (hLU : ∀ k, L.getD k 0 ≤ U.getD k 0) (hlen : U.length = L.length) (k : Nat) : ∃ d : Nat, dgS p L U k = d ∧ (⟨L.getD k 0, U.getD k 0, d⟩ : Ax) = nar (axI p L U k) := by
 by_cases h : k < L.length ∧ U.getD k 0 > L.getD k 0
 ·refine ⟨dgI p k, ?_, ?_⟩
  ·rw [dgS, if_pos h, B9o, B0d]
  ·unfold nar axI; rw [if_neg (by simp only; omega)]
 ·refine ⟨0, by rw [dgS, if_neg h]; rfl, ?_⟩; have he : L.getD k 0 = U.getD k 0 := by
   by_cases hk : k < L.length
   ·have := hLU k; have h2 : ¬ U.getD k 0 > L.getD k 0 := fun e => h ⟨hk, e⟩
    omega
   ·simp [show L.length ≤ k by omega, show U.length ≤ k by omega]
  unfold nar axI; rw [if_pos he]
theorem C70 {k : Nat} {p : List Tm} {L U : List Int} (hd : ∀ j, dgI p j ≤ 4) :
 A96 k p L U = sg ((C5 (([axI p L U 0, axI p L U 1, axI p L U 2].map nar).map (·.d))).map (Q5 (u6 k p) ([axI p L U 0, axI p L U 1, axI p L U 2].map nar))) := by
 refine D24 (fun t ht => ?_) (fun a ha => ?_)
 ·obtain ⟨u, _, rfl⟩ := List.mem_map.1 ht; rfl
 ·simp only [List.mem_cons, List.not_mem_nil, or_false] at ha; rcases ha with rfl | rfl | rfl <;> exact hd _
def axN (p : List Tm) (L U : List Int) (n : Nat) : List Ax := (List.range n).map (axI p L U)
def M6 (n k : Nat) (p : List Tm) : List (Int × List Nat) := p.map fun t => ((tmC k (E5 (-1) p) t).1, (tmC k (E5 (-1) p) t).2.take n)
theorem C6m : bta 0 0 0 0 0 = 1 := by decide
theorem B6e {n : Nat} {p : List Tm} {L U : List Int} (hn : 1 ≤ n) (hL : L.length = n) (hU : U.length = n) (h : I9 n p = true) (k : Nat) (hk : n ≤ k) (hk2 : k < 3) : axI p L U k = ⟨0, 0, 0⟩ := by
 unfold axI; rw [(A3h hn h k hk hk2).1]; simp [show L.length ≤ k by omega, show U.length ≤ k by omega]
theorem C9l {n k : Nat} {p : List Tm} {L U : List Int} (hn : 1 ≤ n) (hn3 : n ≤ 3) (hL : L.length = n) (hU : U.length = n) (h : I9 n p = true) (hp : ∀ t ∈ p, 0 ≤ t.x ∧ t.x ≤ 4 ∧ 0 ≤ t.y ∧ t.y ≤ 4 ∧ 0 ≤ t.z ∧ t.z ≤ 4) :
 (C5 ([axI p L U 0, axI p L U 1, axI p L U 2].map (·.d))).map (Q5 (u6 k p) [axI p L U 0, axI p L U 1, axI p L U 2]) = (C5 ((axN p L U n).map (·.d))).map (Q5 (M6 n k p) (axN p L U n)) := by
 have h3 : n = 1 ∨ n = 2 ∨ n = 3 := by omega
 rcases h3 with rfl | rfl | rfl
 ·have e1 := B6e hn hL hU h 1 (by omega) (by omega); have e2 := B6e hn hL hU h 2 (by omega) (by omega); have z1 := (A3h hn h 1 (by omega) (by omega)).2; have z2 := (A3h hn h 2 (by omega) (by omega)).2; rw [e1, e2]; show (C5 [dgI p 0, 0, 0]).map _ = (C5 [dgI p 0]).map _; have ep : C5 [dgI p 0, 0, 0] = (C5 [dgI p 0]).map (· ++ [0, 0]) := by simp [C5, List.map_flatMap]
  rw [ep, List.map_map]; refine List.map_congr_left fun is his => ?_
  have hl := P1 _ _ his
  match is, hl with
  | [i], _ =>
    simp only [Function.comp, Q5, u6, M6, A3b]; refine I2 fun t ht => ?_
    have hx := hp t ht; have y0 : t.y.toNat = 0 := by have := z1 t ht; simp [pw] at this; omega
    have y1 : t.z.toNat = 0 := by have := z2 t ht; simp [pw] at this; omega
    simp only [tmC, y0, y1, List.cons_append, List.nil_append, U1, C6m, List.take_succ_cons, List.take_zero]; simp [axN, U1, List.range_succ]
 ·have e2 := B6e hn hL hU h 2 (by omega) (by omega); have z2 := (A3h hn h 2 (by omega) (by omega)).2; rw [e2]; show (C5 [dgI p 0, dgI p 1, 0]).map _ = (C5 [dgI p 0, dgI p 1]).map _; have ep : C5 [dgI p 0, dgI p 1, 0] = (C5 [dgI p 0, dgI p 1]).map (· ++ [0]) := by
   have := A3w [dgI p 0, dgI p 1] 0; rw [show [dgI p 0, dgI p 1] ++ [0] = [dgI p 0, dgI p 1, 0] from rfl] at this; rw [this, List.map_eq_flatMap]; rfl
  rw [ep, List.map_map]; refine List.map_congr_left fun is his => ?_
  have hl := P1 _ _ his
  match is, hl with
  | [i, j], _ =>
    simp only [Function.comp, Q5, u6, M6, A3b]; refine I2 fun t ht => ?_
    have hx := hp t ht; have y1 : t.z.toNat = 0 := by have := z2 t ht; simp [pw] at this; omega
    simp only [tmC, y1, List.cons_append, List.nil_append, U1, C6m, List.take_succ_cons, List.take_zero]; simp [axN, U1, List.range_succ]
 ·show _ = (C5 [dgI p 0, dgI p 1, dgI p 2]).map _; refine List.map_congr_left fun is his => ?_
  have hl := P1 _ _ his
  match is, hl with
  | [i, j, l], _ =>
    simp only [Q5, u6, M6, A3b]; refine I2 fun t ht => ?_
    simp only [tmC, List.take_succ_cons, List.take_zero]; simp [axN, U1, List.range_succ]
end Go.Proofs.YtmdeppkfboaepaaGreat
namespace Go.Proofs.YtmdeppkfboaepaaGreat
open Go.Ab Ints
theorem Ints.SlI.ext {H H' : A1} {v : Value} {l : List Int} (h : SlI H v l) (hx : Ext H H') : SlI H' v l := Sl.keep h (T8.of_ext hx (Nat.le_refl _)) (Nat.le_refl _)
def A8t (H : A1) (v : Value) (ss : List (List Int)) : Prop := ∃ vs : List Value, Sl H v ss.length 1 vs ∧ ∀ (i : Nat) (p : List Int), ss[i]? = some p → ∃ s, vs[i]? = some s ∧ SlI H s p
theorem A8t.lenV {H : A1} {v : Value} {ss : List (List Int)} (h : A8t H v ss) : O6 v = some (.int .i64 ss.length) := by
 obtain ⟨vs, h1, _⟩ := h; exact h1.lenV
theorem A8t.nil (H : A1) : A8t H (.slice none 0 0) [] := ⟨[], Sl.nil _ _, by intro i p h; simp at h⟩
structure B2l (H : A1) (lo hi b : Nat) (vs : List Value) (bs : List Nat) (v : Value) (ss : List (List Int)) : Prop where
 vec : Vec H b v ss.length 1 vs
 len : bs.length = ss.length
 rng : lo ≤ b ∧ b < hi
 nodup : bs.Nodup
 nin : b ∉ bs
 rngs : ∀ c ∈ bs, lo ≤ c ∧ c < hi
 el : ∀ (i : Nat) (p : List Int), ss[i]? = some p → ∃ s c, vs[i]? = some s ∧ bs[i]? = some c ∧ C0 H c s p
def A26 (H : A1) (lo hi : Nat) (v : Value) (ss : List (List Int)) : Prop := (v = .slice none 0 0 ∧ ss = []) ∨ ∃ b vs bs, B2l H lo hi b vs bs v ss
theorem B2l.keep {H H' : A1} {lo hi b : Nat} {vs : List Value} {bs : List Nat} {v : Value} {ss : List (List Int)} (h : B2l H lo hi b vs bs v ss) (hn : H.next ≤ H'.next) (hb : ∀ c, c < H.next → lo ≤ c → c < hi → H'.blk c = H.blk c) : B2l H' lo hi b vs bs v ss := by
 obtain ⟨h1, h2, h3, h4, h5, h6, h7⟩ := h; refine ⟨h1.keep hn (fun hlt => hb b hlt h3.1 h3.2), h2, h3, h4, h5, h6, fun i p hp => ?_⟩; obtain ⟨s, c, g1, g2, g3⟩ := h7 i p hp; obtain ⟨k1, k2⟩ := h6 c (List.mem_of_getElem? g2); exact ⟨s, c, g1, g2, Vec.keep g3 hn (fun hlt => hb c hlt k1 k2)⟩
theorem A26.slss {H : A1} {lo hi : Nat} {v : Value} {ss : List (List Int)} (h : A26 H lo hi v ss) : A8t H v ss := by
 rcases h with ⟨rfl, rfl⟩ | ⟨b, vs, bs, h1, h2, h3, h4, h5, h6, h7⟩
 ·exact A8t.nil _
 ·refine ⟨vs, h1.sl, fun i p hp => ?_⟩; obtain ⟨s, c, g1, g2, g3⟩ := h7 i p hp; exact ⟨s, g1, Vec.sl g3⟩
theorem A26.wide {H : A1} {lo hi lo' hi' : Nat} {v : Value} {ss : List (List Int)} (h : A26 H lo hi v ss) (h1 : lo' ≤ lo) (h2 : hi ≤ hi') : A26 H lo' hi' v ss := by
 rcases h with h | ⟨b, vs, bs, g1, g2, g3, g4, g5, g6, g7⟩
 ·exact .inl h
 ·exact .inr ⟨b, vs, bs, g1, g2, by omega, g4, g5, fun c hc => by have := g6 c hc; omega, g7⟩
structure M3 (H : A1) (lo b : Nat) (vs : List Value) (bs : List Nat) (v : Value) (ss : List (List Int)) : Prop where
 vec : Vec H b v ss.length 1 vs
 len : bs.length = ss.length
 nil : ss = [] → v = .slice none 0 0
 low : lo ≤ b
 hi : ss ≠ [] → b < H.next
 nodup : bs.Nodup
 nin : b ∉ bs
 rngs : ∀ c ∈ bs, lo ≤ c ∧ c < H.next
 el : ∀ (i : Nat) (p : List Int), ss[i]? = some p → ∃ s c, vs[i]? = some s ∧ bs[i]? = some c ∧ C0 H c s p
theorem M3.nil' (H : A1) : M3 H H.next H.next [] [] (.slice none 0 0) [] :=
 ⟨Vec.nil _ _ _, rfl, fun _ => rfl, Nat.le_refl _, fun h => absurd rfl h, List.nodup_nil, by simp, by simp, by intro i p h; simp at h⟩
theorem M3.own {H : A1} {lo b : Nat} {vs : List Value} {bs : List Nat} {v : Value} {ss : List (List Int)} (h : M3 H lo b vs bs v ss) : A26 H lo H.next v ss := by
 by_cases hs : ss = []
 ·exact .inl ⟨h.nil hs, hs⟩
 ·exact .inr ⟨b, vs, bs, h.vec, h.len, ⟨h.low, h.hi hs⟩, h.nodup, h.nin, h.rngs, h.el⟩
theorem M3.push {lim : Nat} {H0 H H2 : A1} {lo b c : Nat} {vs : List Value} {bs : List Nat} {v s : Value} {ss : List (List Int)} {p : List Int} (h : M3 H lo b vs bs v ss) (hlim : lim ≤ lo) (hx0 : Ext H0 H) (hlo : H0.next ≤ lo) (hloH : lo ≤ H.next) (hx : Ext H H2)
 (hc1 : H.next ≤ c) (hc2 : c ≤ H2.next) (hp : C0 H2 c s p) (hn : ss.length ≤ 1000000) :
 ∃ v' H3 b', E4 lim (H2.alloc [s]) 1 24 v (.slice (some ⟨H2.next, 0, some 0⟩) 1 1) = some (v', H3) ∧ M3 H3 lo b' (vs ++ [s]) (bs ++ [c]) v' (ss ++ [p]) ∧ Ext H0 H3 := by
 obtain ⟨h1, h2, hnil, h3, h4, h5, h6, h7, h8⟩ := h; have hnx := hx.next; have hclen := h1.clen; obtain ⟨b0, hv0, hb0, hbc, hbn, hbl⟩ : ∃ b0, Vec H2 b0 v ss.length 1 vs ∧ lo ≤ b0 ∧ b0 ≠ c ∧ b0 ∉ bs ∧ (b0 < H.next ∨ H2.next < b0) := by
  by_cases hs : ss = []
  ·subst hs; have hv := hnil rfl; subst hv; have hvs : vs = [] := List.length_eq_zero_iff.1 (by simpa using hclen); subst hvs; refine ⟨H2.next + 1, Vec.nil _ _ _, by omega, by omega, fun hm => ?_, .inr (by omega)⟩; have := h7 _ hm; omega
  ·have := h4 hs; exact ⟨b, h1.ext hx, h3, by omega, h6, .inl this⟩
 obtain ⟨v', H3, b', g1, g2, g3, g4, g5, g6⟩ := n5 hv0 (lim := lim) s (by omega) (bytes := 24) (by omega); have hbl' : b' = b0 ∨ H2.next < b' := g3; refine ⟨v', H3, b', g1, ⟨by rw [List.length_append]; exact g2, by simp [h2], by simp, by omega, fun _ => g4, ?_, ?_, ?_, ?_⟩, Chg.ext (hx0.trans hx) g5 (by omega)⟩
 ·refine List.nodup_append.2 ⟨h5, by simp, ?_⟩; intro x hx' y hy; simp at hy; subst hy; have := h7 x hx'; omega
 ·intro hm; rcases List.mem_append.1 hm with hm | hm
  ·rcases hbl' with rfl | hbl'
   ·exact hbn hm
   ·have := h7 _ hm; omega
  ·simp at hm; omega
 ·intro c' hc'; rcases List.mem_append.1 hc' with hm | hm
  ·have := h7 _ hm; omega
  ·simp at hm; omega
 ·intro j q hq; by_cases hj : j < ss.length
  ·rw [List.getElem?_append_left hj] at hq; obtain ⟨s', c', q1, q2, q3⟩ := h8 j q hq; have hm := List.mem_of_getElem? q2; refine ⟨s', c', by rw [List.getElem?_append_left (by omega)]; exact q1, by rw [List.getElem?_append_left (by omega)]; exact q2, Vec.chg (Vec.ext q3 hx) g5 (fun e => hbn (e ▸ hm))⟩
  ·rw [List.getElem?_append_right (by omega)] at hq; have hji : j = ss.length := by
    have := (List.getElem?_eq_some_iff.1 hq).1; simp at this; omega
   subst hji; simp at hq; subst hq; exact ⟨s, c, by rw [List.getElem?_append_right (by omega)]; simp [hclen], by rw [List.getElem?_append_right (by omega)]; simp [h2], Vec.chg hp g5 (fun e => hbc e.symm)⟩
end Go.Proofs.YtmdeppkfboaepaaGreat
namespace Go.Proofs.YtmdeppkfboaepaaGreat
open Go.Ab Ints
def R8 (L U : List Int) (side : Nat) (up : Bool) : List Int := if up then L.set side (U.getD side 0) else L
def U4 (L U : List Int) (side : Nat) (up : Bool) : List Int := if up then U else U.set side (L.getD side 0)
structure Crs (k n : Nat) (L U : List Int) : Prop where
 hk : k ≤ 4
 n1 : 1 ≤ n
 n3 : n ≤ 3
 hL : L.length = n
 hU : U.length = n
 le : ∀ j, L.getD j 0 ≤ U.getD j 0
 bL : ∀ j, (L.getD j 0).natAbs ≤ 128
 bU : ∀ j, (U.getD j 0).natAbs ≤ 128
theorem Crs.face {k n : Nat} {L U : List Int} (h : Crs k n L U) {side : Nat} (hs : side < n) (up : Bool) : Crs k n (R8 L U side up) (U4 L U side up) := by
 obtain ⟨h1, h2, h3, h4, h5, h6, h7, h8⟩ := h; cases up
 ·refine ⟨h1, h2, h3, h4, by simp [U4, h5], fun j => ?_, h7, fun j => ?_⟩
  ·simp only [R8, U4, Bool.false_eq_true, if_false]; rw [U9 _ _ _ _ (by omega)]; have := h6 j; split
   ·rename_i e; subst e; omega
   ·exact this
  ·simp only [U4, Bool.false_eq_true, if_false]; rw [U9 _ _ _ _ (by omega)]; split
   ·exact h7 _
   ·exact h8 _
 ·refine ⟨h1, h2, h3, by simp [R8, h4], h5, fun j => ?_, fun j => ?_, h8⟩
  ·simp only [R8, U4, if_true]; rw [U9 _ _ _ _ (by omega)]; have := h6 j; split
   ·rename_i e; subst e; omega
   ·exact this
  ·simp only [R8, if_true]; rw [U9 _ _ _ _ (by omega)]; split
   ·exact h8 _
   ·exact h7 _
theorem B88 {l : List Int} {i : Nat} (h : i < l.length) : l.set i (l.getD i 0) = l := by
 rw [show l.getD i 0 = l[i] from by simp [h]]; exact List.set_getElem_self h
theorem Crs.ax {k n : Nat} {L U : List Int} (h : Crs k n L U) (j d : Nat) (hd : d ≤ 4) : B8v ⟨L.getD j 0, U.getD j 0, d⟩ := by
 have := h.bL j; have := h.bU j; exact ⟨hd, by simpa using h.bL j, by simp only; omega⟩
theorem C4o (lim : Nat) (s l h : Value) (p : List Tm) (L U : List Int) (k n : Nat) (H : A1) (hl : lim ≤ H.next) (hs : SlT H s p) (hL : SlI H l L) (hU : SlI H h U) (hc : Crs k n L U) (hp : I1 p = true) :
 A5 Tryz.prog lim A2n [s, l, h, .int .i64 k] H fun v H' => ∃ (a dd : Value) (A : List Int), v = .tuple #[a, dd] ∧ A ≠ [] ∧ A.length ≤ 1000 ∧ sg A = A96 k p L U ∧ SlI H' a A ∧ Ext H H' := by
 obtain ⟨g1, g2, g3⟩ := A09 hp; have hb : ∀ t ∈ p, 0 ≤ t.x ∧ t.x ≤ 4 ∧ 0 ≤ t.y ∧ t.y ≤ 4 ∧ 0 ≤ t.z ∧ t.z ≤ 4 := fun t ht => (g1 t ht).2
 have hd := B23 hb; have hlen : U.length = L.length := by rw [hc.hL, hc.hU]
 obtain ⟨d0, e0, x0⟩ := C0v (p := p) hc.le hlen 0; obtain ⟨d1, e1, x1⟩ := C0v (p := p) hc.le hlen 1; obtain ⟨d2, e2, x2⟩ := C0v (p := p) hc.le hlen 2; have nd : ∀ j d, (⟨L.getD j 0, U.getD j 0, d⟩ : Ax) = nar (axI p L U j) → d ≤ 4 := by
  intro j d e; have : d = (nar (axI p L U j)).d := by rw [← e]
  rw [this]; unfold nar; simp only; split
  ·omega
  ·exact hd j
 refine (B84 lim s l h p L U k d0 d1 d2 H hl hs hL hU g3 (by rw [hc.hL]; exact hc.n3) hlen hc.hk (fun t ht => (g1 t ht).1) g2 e0 e1 e2 (hc.ax 0 d0 (nd _ _ x0)) (hc.ax 1 d1 (nd _ _ x1)) (hc.ax 2 d2 (nd _ _ x2))).mono ?_; rintro _ H' ⟨a, dd, A, rfl, a1, a2, a3, a4, a5⟩; refine ⟨a, dd, A, rfl, a1, a2, ?_, a4, a5⟩; rw [a3, x0, x1, x2, C70 hd]; rfl
theorem B17 (lim : Nat) (s v : Value) (p : List Tm) (L U : List Int) (k n side : Nat) (up : Bool) (H : A1) (hl : lim ≤ H.next) (hs : SlT H s p) (hv : V6 H v k L U) (hc : Crs k n L U) (hp : I1 p = true) (hside : side < n) :
 A5 Tryz.prog lim B9h [s, v, .int .i64 side, .bool up] H fun v H' => v = .int .i64 (A96 k p (R8 L U side up) (U4 L U side up)) ∧ Ext H H' := by
 obtain ⟨ls, us, rfl, hls, hus⟩ := hv; have hLn := hc.hL; have hUn := hc.hU; have hn3 := hc.n3; refine B56.go rfl ?_; unfold A8p; refine A0 ?_; simp only [sS, M5, C2]; have hx : Ext H (H.alloc [.int .i64 k, ls, us]) := Ext.alloc _ _; have hls1 := SlI.ext hls hx; have hus1 := SlI.ext hus hx; have hbp : (H.alloc [.int .i64 k, ls, us]).blk H.next = some [.int .i64 k, ls, us] := A6 _ _; have hbl : H.next < (H.alloc [.int .i64 k, ls, us]).next := Nat.lt_succ_self _; generalize H.alloc [.int .i64 k, ls, us] = H1 at hx hls1 hus1 hbp hbl ⊢; have hn1 := hx.next; refine A0 ?_; simp only [sS, Nat.zero_add, B7 hbp]; refine (U0 _ ls L H1 (Nat.le_refl _) hls1 (by omega)).use ?_; rintro lo H2 ⟨b, hb1, hb2, hlo, hx2⟩ _; simp only [sS]; refine (U0 lim us U H2 (by have := hx2.next; omega) (SlI.ext hus1 hx2) (by omega)).mono ?_; rintro hi H3 ⟨c, hc1, hc2, hhi, hx3⟩; have hn2 := hx2.next; have hn3' := hx3.next; have hlo3 := Vec.ext hlo hx3; have hx03 := (hx.trans hx2).trans hx3; simp only [sS]; refine N9 (fun e' H' => C0 H' b lo (R8 L U side up) ∧ C0 H' c hi U ∧ Ext H H' ∧ H1.next ≤ H'.next ∧ H'.blk H.next = some [.int .i64 k, ls, us] ∧ e' = [s, .agg #[.int .i64 k, ls, us], .int .i64 side, .bool up, .pointer (some ⟨H.next, 0, none⟩), .int .i64 0, lo, hi, undef]) ?_ ?_
 ·refine E1 ?_; simp only [sS]; have hbp3 : H3.blk H.next = some [.int .i64 k, ls, us] := by rw [hx3.blk _ (by omega), hx2.blk _ (by omega)]; exact hbp
  cases up
  ·refine C4.false_ ?_; refine A2 ?_; simp +decide only [sQ]; exact ⟨hlo3, hhi, hx03, by omega, hbp3, trivial⟩
  ·refine C4.true_ ?_; obtain ⟨q1, q2⟩ := C0.at hhi (i := side) (by omega); obtain ⟨w1, _⟩ := C0.at hlo3 (i := side) (by omega); obtain ⟨cs, hst, hlo4⟩ := C0.put (lim := lim) hlo3 (by omega) (i := side) (by omega) (U.getD side 0); have hch : Chg b H3 (H3.put b cs) := Chg.put _ _ _; refine A4 ?_; simp only [sS, q1, q2, w1, hst]; simp +decide only [sQ]; refine ⟨hlo4, Vec.chg hhi hch (by omega), Chg.ext hx03 hch (by omega), by have := hch.next; omega, ?_, trivial⟩; rw [hch.blk _ (by omega) (by omega)]; exact hbp3
 ·rintro e' H4 ⟨g1, g2, g3, g4, g5, rfl⟩; have hfc := hc.face hside up; have hfl := hfc.hL; obtain ⟨q1, q2⟩ := C0.at g1 (i := side) (by omega); obtain ⟨w1, _⟩ := C0.at g2 (i := side) (by omega); obtain ⟨cs, hst, g2'⟩ := C0.put (lim := lim) g2 (by omega) (i := side) (by omega) ((R8 L U side up).getD side 0); have hch : Chg c H4 (H4.put c cs) := Chg.put _ _ _; have eU : U.set side ((R8 L U side up).getD side 0) = U4 L U side up := by
   cases up
   ·rfl
   ·simp only [R8, U4, if_true]; rw [U9 _ _ _ _ (by omega), if_pos rfl]; exact B88 (by omega)
  rw [eU] at g2'; refine A0 ?_; simp only [sS, q1, q2, w1, hst]; have g5' : (H4.put c cs).blk H.next = some [.int .i64 k, ls, us] := by rw [hch.blk _ (by omega) (by omega)]; exact g5
  have g3' := Chg.ext g3 hch (by omega); have g1' := Vec.chg g1 hch (by omega); have hn5 := g3'.next; generalize H4.put c cs = H5 at g5' g3' g1' g2' hn5 ⊢; refine A0 ?_; simp only [sS, Nat.zero_add, B7 g5']; refine (C4o lim s lo hi p _ _ k n H5 (by omega) (hs.ext g3') (Vec.sl g1') (Vec.sl g2') hfc hp).mono ?_; rintro _ H6 ⟨a, dd, A, rfl, a1, a2, a3, a4, hx6⟩; simp only [sS]; refine A0 ?_; simp only [sS]; refine (C7z lim a A H6 a4 a1 (by omega)).eq ?_; simp only [sS, a3]; refine A3 ?_; simp +decide only [sQ]; exact ⟨trivial, g3'.trans hx6⟩
end Go.Proofs.YtmdeppkfboaepaaGreat
namespace Go.Proofs.YtmdeppkfboaepaaGreat
open Go.Ab Ints
theorem C9i (l : List Int) : sg l = 1 ∨ sg l = -1 ∨ sg l = 0 := by
 unfold sg; split
 ·exact .inl rfl
 ·split
  ·exact .inr (.inl rfl)
  ·exact .inr (.inr rfl)
def fcS (k : Nat) (p : List Tm) (L U : List Int) (side : Nat) (up : Bool) : Int := A96 k p (R8 L U side up) (U4 L U side up)
theorem C0n (k : Nat) (p : List Tm) (L U : List Int) (side : Nat) (up : Bool) : fcS k p L U side up = 1 ∨ fcS k p L U side up = -1 ∨ fcS k p L U side up = 0 := C9i _
theorem B00 (k : Nat) (p : List Tm) (L U : List Int) (side : Nat) (a b : Bool) : IntKind.i64.wrap (fcS k p L U side a * fcS k p L U side b) = fcS k p L U side a * fcS k p L U side b := by
 rcases C0n k p L U side a with h | h | h <;> rcases C0n k p L U side b with h2 | h2 | h2 <;> rw [h, h2] <;> rfl
def B2r (k : Nat) (p : List Tm) (L U : List Int) (side : Nat) : Bool := decide (fcS k p L U side false * fcS k p L U side true < 0)
def R4 (k : Nat) (ss : List (List Tm)) (L U : List Int) (order : List Int) : Bool := (List.range order.length).all fun side => B2r k (ss.getD (order.getD side 0).toNat []) L U side
theorem A8m (lim : Nat) (s v : Value) (p : List Tm) (L U : List Int) (k n side : Nat) (H : A1) (hl : lim ≤ H.next) (hs : SlT H s p) (hv : V6 H v k L U) (hc : Crs k n L U) (hp : I1 p = true) (hside : side < n) :
 A5 Tryz.prog lim B0l [s, v, .int .i64 side] H fun v H' => v = .bool (B2r k p L U side) ∧ Ext H H' := by
 obtain ⟨ls, us, rfl, hls, hus⟩ := hv; refine A9o.go rfl ?_; unfold A2c; refine A0 ?_; simp only [sS, M5, C2]; have hx : Ext H (H.alloc [.int .i64 k, ls, us]) := Ext.alloc _ _; have hls1 := SlI.ext hls hx; have hus1 := SlI.ext hus hx; have hbp : (H.alloc [.int .i64 k, ls, us]).blk H.next = some [.int .i64 k, ls, us] := A6 _ _; generalize H.alloc [.int .i64 k, ls, us] = H1 at hx hls1 hus1 hbp ⊢; have hn1 := hx.next; refine A0 ?_; simp only [sS, E9 hbp]; refine (B17 _ s _ p L U k n side false H1 (Nat.le_refl _) (hs.ext hx) ⟨_, _, rfl, hls1, hus1⟩ hc hp hside).use ?_; rintro _ H2 ⟨rfl, hx2⟩ _; have hn2 := hx2.next; simp only [sS]; refine (B17 lim s _ p L U k n side true H2 (by omega) (hs.ext (hx.trans hx2)) ⟨_, _, rfl, SlI.ext hls1 hx2, SlI.ext hus1 hx2⟩ hc hp hside).mono ?_; rintro _ H3 ⟨rfl, hx3⟩; have hw := B00 k p L U side false true; simp only [fcS] at hw; simp only [sS, hw]; refine A3 ?_; simp +decide only [sQ]; exact ⟨rfl, (hx.trans hx2).trans hx3⟩
theorem C31 (lim : Nat) (s v o : Value) (ss : List (List Tm)) (L U order : List Int) (k n : Nat) (H : A1) (hl : lim ≤ H.next) (hs : l3 H s ss) (hv : V6 H v k L U) (ho : SlI H o order) (hc : Crs k n L U) (hp : ∀ p ∈ ss, I1 p = true) (hn : ss.length = n) (hon : order.length = n) (hin : ∀ x ∈ order, 0 ≤ x ∧ x ≤ (n : Int) - 1) :
 A5 Tryz.prog lim B39 [s, v, o] H fun v H' => v = .bool (R4 k ss L U order) ∧ Ext H H' := by
 obtain ⟨ls, us, rfl, hls, hus⟩ := hv; have hn3 := hc.n3; refine B3b.go rfl ?_; unfold A4m; refine A0 ?_; simp only [sS, M5, C2]; have hx : Ext H (H.alloc [.int .i64 k, ls, us]) := Ext.alloc _ _; have hls1 := SlI.ext hls hx; have hus1 := SlI.ext hus hx; have ho1 := SlI.ext ho hx; have hbp : (H.alloc [.int .i64 k, ls, us]).blk H.next = some [.int .i64 k, ls, us] := A6 _ _; have hbl : H.next < (H.alloc [.int .i64 k, ls, us]).next := Nat.lt_succ_self _; generalize H.alloc [.int .i64 k, ls, us] = H1 at hx hls1 hus1 ho1 hbp hbl ⊢; have hn1 := hx.next; refine C7 (A0 ?_); simp only [sS, ho1.lenV]; refine A7 ?_; refine B9 (fun j e' H' => ∃ (i : Nat) (x5 x6 : Value), i + j = order.length ∧ R4 k ss L U order = ((List.range order.length).drop i).all (fun side => B2r k (ss.getD (order.getD side 0).toNat []) L U side) ∧ Ext H1 H' ∧ e' = [s, .agg #[.int .i64 k, ls, us], o, .pointer (some ⟨H.next, 0, none⟩), .bool false, x5, x6, o, .int .i64 order.length, .int .i64 i]) order.length ⟨0, _, _, by omega, rfl, Ext.refl _, rfl⟩ ?_; rintro j e' H2 ⟨i, x5, x6, hij, hall, hx2, rfl⟩; have hn2 := hx2.next; refine A9 ?_; simp only [sS]; refine C4.split (fun hlt => ?_) (fun hlt => ?_)
 ·have hlt' : i < order.length := by simpa using hlt
  obtain ⟨b1, o1, u1, _, u2⟩ := SlI.get (SlI.ext ho1 hx2) hlt'; have hg : order.getD i 0 = order[i] := by simp [hlt']
  obtain ⟨r1, r2⟩ := hin _ (List.getElem_mem hlt'); obtain ⟨m, hm⟩ : ∃ m : Nat, order[i] = m := ⟨order[i].toNat, by omega⟩; have hml : m < ss.length := by omega
  obtain ⟨b2, o2, s1, w1, w2, w3⟩ := (hs.ext (hx.trans hx2)).at hml; rw [List.drop_eq_getElem_cons (by simpa using hlt'), List.all_cons, List.getElem_range, hg, hm, Int.toNat_natCast, show ss.getD m [] = ss[m] from by simp [hml]] at hall; rw [hm] at u2; have hbp2 : H2.blk H.next = some [.int .i64 k, ls, us] := by rw [hx2.blk _ hbl]; exact hbp
  refine A2 ?_; simp +decide only [sQ]; refine A8 ?_; refine A0 ?_; simp only [sS, u1, u2]; refine E1 ?_; simp only [sS, w1, w2, E9 hbp2]; refine (A8m lim s1 _ ss[m] L U k n i H2 (by omega) w3 ⟨_, _, rfl, SlI.ext hls1 hx2, SlI.ext hus1 hx2⟩ hc (hp _ (List.getElem_mem hml)) (by omega)).mono ?_; rintro _ H3 ⟨rfl, hx3⟩; simp only [sS]; refine C4.split (fun hb => ?_) (fun hb => ?_)
  ·refine A0 ?_; simp only [sS]; refine A3 ?_; simp +decide only [sQ]; simp only [Bool.not_eq_true'] at hb; rw [hb, Bool.false_and] at hall; rw [hall]; exact ⟨rfl, (hx.trans hx2).trans hx3⟩
  ·refine A2 ?_; simp +decide only [sQ]; refine A4 ?_; simp only [sS, D6 (i := i) (by omega)]; simp +decide only [sQ]; simp only [Bool.not_eq_false'] at hb; rw [hb, Bool.true_and] at hall; exact C6.mk (j - 1) (by omega) ⟨i + 1, _, _, by omega, hall, hx2.trans hx3, rfl⟩
 ·have hge : i = order.length := by simp at hlt; omega
  subst hge; refine B8 ?_; simp +decide only [sQ, reduceIte]; refine A0 ?_; simp only [sS]; refine A3 ?_; simp +decide only [sQ]; rw [List.drop_of_length_le (by simp)] at hall; rw [hall]; exact ⟨rfl, hx.trans hx2⟩
def A48 (ss : List (List Tm)) (k : Int) (L U : List Int) : Bool := P7 ss && G0 k L U && decide (k ≤ 4) && ((ss.length : Int) == (L.length : Int))
theorem B53 (lim : Nat) (s v : Value) (ss : List (List Tm)) (k : Int) (L U : List Int) (H : A1) (hl : lim ≤ H.next) (hs : l3 H s ss) (hv : V6 H v k L U) (hn : ss.length ≤ 1000000) (hn2 : ∀ p ∈ ss, p.length ≤ 1000000) (hL : L.length ≤ 1000000) (hU : U.length ≤ 1000000) :
 A5 Tryz.prog lim B5m [s, v] H fun v H' => v = .bool (A48 ss k L U) ∧ Ext H H' := by
 obtain ⟨ls, us, rfl, hls, hus⟩ := hv; refine B37.go rfl ?_; unfold A6q; refine A0 ?_; simp only [sS, M5, C2]; have hx : Ext H (H.alloc [.int .i64 k, ls, us]) := Ext.alloc _ _; have hls1 := SlI.ext hls hx; have hus1 := SlI.ext hus hx; have hbp : (H.alloc [.int .i64 k, ls, us]).blk H.next = some [.int .i64 k, ls, us] := A6 _ _; have hbl : H.next < (H.alloc [.int .i64 k, ls, us]).next := Nat.lt_succ_self _; generalize H.alloc [.int .i64 k, ls, us] = H1 at hx hls1 hus1 hbp hbl ⊢; have hn1 := hx.next; refine A0 ?_; simp only [sS]; refine (C37 lim s ss H1 (by omega) (hs.ext hx) hn hn2).mono ?_; rintro _ H2 ⟨rfl, hx2⟩; have hn2' := hx2.next; have hbp2 : H2.blk H.next = some [.int .i64 k, ls, us] := by rw [hx2.blk _ hbl]; exact hbp
 unfold A48; cases h1 : P7 ss
 ·simp only [sS]; refine A3 ?_; simp +decide only [sQ]; exact ⟨by simp, hx.trans hx2⟩
 simp only [sS, E9 hbp2]; refine (e8 lim _ k L U H2 (by omega) ⟨_, _, rfl, SlI.ext hls1 hx2, SlI.ext hus1 hx2⟩ (by omega) (by omega)).mono ?_; rintro _ H3 ⟨rfl, hx3⟩; have hbp3 : H3.blk H.next = some [.int .i64 k, ls, us] := by rw [hx3.blk _ (by omega)]; exact hbp2
 cases h2 : G0 k L U
 ·simp only [sS]; refine A3 ?_; simp +decide only [sQ]; exact ⟨by simp, (hx.trans hx2).trans hx3⟩
 simp only [sS, Nat.zero_add, B7 hbp3]; cases h3 : decide (k ≤ 4)
 ·simp only [sS]; refine A3 ?_; simp +decide only [sQ]; exact ⟨by simp, (hx.trans hx2).trans hx3⟩
 simp only [sS, Nat.zero_add, B7 hbp3, hs.lenV, hls.lenV]; refine A3 ?_; simp +decide only [sQ]; exact ⟨by simp, (hx.trans hx2).trans hx3⟩
theorem A50 {m : Int} : ∀ {low high : List Int}, L9 m low high = true → high.length = low.length → 0 ≤ m → ∀ j, low.getD j 0 ≤ high.getD j 0 ∧ -m ≤ low.getD j 0 ∧ low.getD j 0 ≤ m ∧ -m ≤ high.getD j 0 ∧ high.getD j 0 ≤ m
 | [], high, _, hl, hm, j => by
   have : high = [] := List.length_eq_zero_iff.1 (by simpa using hl); subst this; simp; omega
 | x :: l, y :: h, hr, hl, hm, j => by
   simp only [L9, Bool.and_eq_true, decide_eq_true_eq] at hr; obtain ⟨⟨⟨⟨a1, a2⟩, a3, a4⟩, a5⟩, a6⟩ := hr; cases j with
   | zero => simp; omega
   | succ j => simpa using A50 a6 (by simpa using hl) hm j
 | x :: l, [], _, hl, _, _ => by simp at hl
theorem C3h {ss : List (List Tm)} {k : Int} {L U : List Int} (h : A48 ss k L U = true) : ∃ kn n : Nat, k = kn ∧ ss.length = n ∧ Crs kn n L U ∧ P7 ss = true := by
 simp only [A48, Bool.and_eq_true, decide_eq_true_eq] at h; obtain ⟨⟨⟨h1, h2⟩, h3⟩, h4⟩ := h; have h4' : ss.length = L.length := by have := h4; simp at this; omega
 obtain ⟨g1, g2, g3, g4, g5, _, _⟩ := F7 h2; simp only [G0, Bool.and_eq_true, decide_eq_true_eq, Bool.not_eq_true', bne_eq_false_iff_eq] at h2; have hr := h2.1.2; obtain ⟨kn, rfl⟩ : ∃ kn : Nat, k = kn := ⟨k.toNat, by omega⟩; rw [Int.toNat_natCast] at hr; have hp := A6z (n := kn) (m := 4) (by omega); have hR := A50 hr g5 (by omega); refine ⟨kn, ss.length, rfl, rfl, ⟨by omega, by omega, by omega, by omega, by omega, fun j => (hR j).1, fun j => ?_, fun j => ?_⟩, h1⟩
 ·have := hR j; omega
 ·have := hR j; omega
theorem C2s (n : Nat) : ∀ {ss : List (List Tm)}, B4d n ss = true → ∀ p ∈ ss, I1 p = true ∧ I9 n p = true
 | [], _, p, h => by simp at h
 | a :: l, h, p, hp => by
   simp only [B4d, Bool.and_eq_true] at h; rcases List.mem_cons.1 hp with rfl | hp
   ·exact h.1
   ·exact C2s n h.2 p hp
theorem B5y {ss : List (List Tm)} (h : P7 ss = true) : ∀ p ∈ ss, I1 p = true ∧ I9 ss.length p = true := by
 simp only [P7, Bool.and_eq_true] at h; exact C2s _ h.1
end Go.Proofs.YtmdeppkfboaepaaGreat
namespace Go.Proofs.YtmdeppkfboaepaaGreat
open Go.Ab Ints
def vk (k : Nat) (c : List Int) (p : List Tm) : Int := ev (fun t => ((2 : Int) ^ k) ^ (4 - (t.x + t.y + t.z)).toNat * G7 c t c.length) p
theorem D3a : ∀ d : Fin 5, ∀ j : Fin 5, wgt d.val 0 j.val = if j.val = 0 then (fac d.val : Int) else 0 := by decide
theorem D3u {d : Nat} (lo hi : Int) (e : Nat) (hd : d ≤ 4) : bta d lo hi e 0 = fac d * lo ^ e := by
 have hw : ∀ j, j ≤ 4 → wgt d 0 j = if j = 0 then (fac d : Int) else 0 := fun j hj => D3a ⟨d, by omega⟩ ⟨j, by omega⟩
 have h0 := C3q lo hi e; unfold bta; rcases (by omega : d = 0 ∨ d = 1 ∨ d = 2 ∨ d = 3 ∨ d = 4) with rfl | rfl | rfl | rfl | rfl <;>
  simp [List.range, List.range.loop, E8, hw, h0]
theorem D3y {d : Nat} (lo hi : Int) (e : Nat) (hd : d ≤ 4) (he : e ≤ d) : bta d lo hi e d = fac d * hi ^ e := by
 obtain ⟨w, rfl⟩ : ∃ w, hi = lo + w := ⟨hi - lo, by omega⟩; have hw : lo + w - lo = w := by omega
 unfold bta; rcases (by omega : d = 0 ∨ d = 1 ∨ d = 2 ∨ d = 3 ∨ d = 4) with rfl | rfl | rfl | rfl | rfl <;>
 rcases (by omega : e = 0 ∨ e = 1 ∨ e = 2 ∨ e = 3 ∨ e = 4) with rfl | rfl | rfl | rfl | rfl <;> (first | omega | skip) <;>
  simp [List.range, List.range.loop, E8, wgt, chs, fac, prt, hw] <;> grind
theorem B48 (φ : Tm → Int) : ∀ p : List Tm, E8 (fun t => t.c * φ t) p = ev φ p
 | [] => rfl
 | t :: p => by rw [E8, B48 φ p, ev]
theorem B65 {d : Nat} (h : d ≤ 4) : (0 : Int) < fac d := by have := C50 h; omega
theorem C2o {k : Nat} {p : List Tm} {L U c : List Int} {n : Nat} (hn1 : 1 ≤ n) (hn3 : n ≤ 3) (hc : c.length = n) (hp : I1 p = true) (hf : I9 n p = true)
 {is : Nat → Nat} (his : ∀ j, j < 3 → ∀ e, e ≤ dgI p j → bta (dgI p j) (L.getD j 0) (U.getD j 0) e (is j) = fac (dgI p j) * c.getD j 0 ^ e) {t : Tm} (ht : t ∈ p) :
 (tmC k (E5 (-1) p) t).1 * U1 [axI p L U 0, axI p L U 1, axI p L U 2] (tmC k (E5 (-1) p) t).2 [is 0, is 1, is 2] * ((2 : Int) ^ k) ^ (4 - E5 (-1) p).toNat
  = (fac (dgI p 0) * fac (dgI p 1) * fac (dgI p 2)) * (t.c * (((2 : Int) ^ k) ^ (4 - (t.x + t.y + t.z)).toNat * G7 c t c.length)) := by
 obtain ⟨h1, h2, _⟩ := A09 hp; obtain ⟨_, hx0, hx4, hy0, hy4, hz0, hz4⟩ := h1 t ht; have hdeg := B5b p (-1) t ht; have hl : B97 c.length t := by
  intro u h3 h4; have h5 := (A3h hn1 hf u (by omega) h4).2 t ht; have h6 := (A3h hn1 hf u (by omega) h4).1; have h7 : 0 ≤ pw t u := by unfold pw; split; omega; split <;> omega
  omega
 have e3 : G7 c t 3 = G7 c t c.length := by
  have := A84 (l := c) hl (3 - c.length) (by omega)
  rwa [show c.length + (3 - c.length) = 3 by omega] at this
 have hd : ∀ u : Nat, u < 3 → (pw t u).toNat ≤ dgI p u := fun u hu => by
  have h5 := B70 u p 0 t ht; have h6 := B0d p u; omega
 have hb : ∀ j, j < 3 → bta (dgI p j) (L.getD j 0) (U.getD j 0) (pw t j).toNat (is j) = fac (dgI p j) * c.getD j 0 ^ (pw t j).toNat := fun j hj => his j hj _ (hd j hj)
 have b0 := hb 0 (by decide); have b1 := hb 1 (by decide); have b2 := hb 2 (by decide); have p0 : pw t (0 : Nat) = t.x := rfl; have p1 : pw t (1 : Nat) = t.y := rfl; have p2 : pw t (2 : Nat) = t.z := rfl; rw [p0] at b0; rw [p1] at b1; rw [p2] at b2; have ep : (4 - (t.x + t.y + t.z)).toNat = (E5 (-1) p - t.x - t.y - t.z).toNat + (4 - E5 (-1) p).toNat := by omega
 rw [← e3, ep, Int.pow_add]; simp only [tmC, U1, axI, G7, b0, b1, b2, p0, p1, p2, Int.mul_one, Int.one_mul]; simp only [Int.mul_assoc, Int.mul_comm, Int.mul_left_comm]
theorem A80 {α : Type} (f g : α → Int) (A M : Int) : ∀ l : List α, (∀ a ∈ l, f a * M = A * g a) → E8 f l * M = A * E8 g l
 | [], _ => by simp [E8]
 | a :: l, h => by
   have h1 := h a (by simp); have h2 := A80 f g A M l fun b hb => h b (by simp [hb])
   rw [E8, E8, Int.add_mul, Int.mul_add, h1, h2]
theorem C2x (k m : Nat) : (0 : Int) < ((2 : Int) ^ k) ^ m := Int.pow_pos (Int.pow_pos (by decide))
theorem C3y {k : Nat} {p : List Tm} {L U c : List Int} {n : Nat} (hn1 : 1 ≤ n) (hn3 : n ≤ 3) (hc : c.length = n) (hL : L.length = n) (hU : U.length = n) (hp : I1 p = true) (hf : I9 n p = true)
 (hcu : ∀ j, j < n → c.getD j 0 = L.getD j 0 ∨ c.getD j 0 = U.getD j 0) (hs : A96 k p L U ≠ 0) : J5 (vk k c p) = A96 k p L U := by
 obtain ⟨h1, h2, _⟩ := A09 hp; have hd4 : ∀ j, dgI p j ≤ 4 := B23 fun t ht => by obtain ⟨_, h⟩ := h1 t ht; exact h
 have hcu3 : ∀ j, c.getD j 0 = L.getD j 0 ∨ c.getD j 0 = U.getD j 0 := fun j => by
  rcases Nat.lt_or_ge j n with h | h
  ·exact hcu j h
  ·left; simp [List.getD_eq_getElem?_getD, List.getElem?_eq_none, hc, hL, h]
 obtain ⟨is, his0, his⟩ : ∃ is : Nat → Nat, (∀ j, is j ≤ dgI p j) ∧ ∀ j, j < 3 → ∀ e, e ≤ dgI p j → bta (dgI p j) (L.getD j 0) (U.getD j 0) e (is j) = fac (dgI p j) * c.getD j 0 ^ e := by
  refine ⟨fun j => if c.getD j 0 = L.getD j 0 then 0 else dgI p j, fun j => by dsimp only; split <;> omega, fun j _ e he => ?_⟩; by_cases hj : c.getD j 0 = L.getD j 0
  ·simp only [hj, if_true]; exact D3u _ _ _ (hd4 j)
  ·have hj2 : c.getD j 0 = U.getD j 0 := (hcu3 j).resolve_left hj; simp only [hj, if_false]; rw [hj2]; exact D3y _ _ _ (hd4 j) he
 have hmem : [is 0, is 1, is 2] ∈ C5 ([axI p L U 0, axI p L U 1, axI p L U 2].map (·.d)) := by
  rw [S1]; refine ⟨rfl, fun s i m hi hm => ?_⟩; have h3 := his0 0; have h4 := his0 1; have h5 := his0 2
  match s with
  | 0 => simp [axI] at hi hm; omega
  | 1 => simp [axI] at hi hm; omega
  | 2 => simp [axI] at hi hm; omega
  | s + 3 => simp at hi
 have hco : Q5 (u6 k p) [axI p L U 0, axI p L U 1, axI p L U 2] [is 0, is 1, is 2] * ((2 : Int) ^ k) ^ (4 - E5 (-1) p).toNat = (fac (dgI p 0) * fac (dgI p 1) * fac (dgI p 2)) * vk k c p := by
  unfold Q5 u6 vk; rw [A3b, ← B48]; exact A80 _ _ _ _ p fun t ht => C2o hn1 hn3 hc hp hf his ht
 have hF : (0 : Int) < fac (dgI p 0) * fac (dgI p 1) * fac (dgI p 2) := Int.mul_pos (Int.mul_pos (B65 (hd4 0)) (B65 (hd4 1))) (B65 (hd4 2)); have hM := C2x k (4 - E5 (-1) p).toNat; have hin := List.mem_map_of_mem (f := Q5 (u6 k p) [axI p L U 0, axI p L U 1, axI p L U 2]) hmem; generalize Q5 (u6 k p) [axI p L U 0, axI p L U 1, axI p L U 2] [is 0, is 1, is 2] = x at hco hin; generalize ((2 : Int) ^ k) ^ (4 - E5 (-1) p).toNat = M at hco hM; generalize (fac (dgI p 0) * fac (dgI p 1) * fac (dgI p 2) : Int) = F at hco hF; unfold A96 at hs ⊢; generalize List.map (Q5 (u6 k p) [axI p L U 0, axI p L U 1, axI p L U 2]) (C5 ([axI p L U 0, axI p L U 1, axI p L U 2].map (·.d))) = l at hs hin ⊢; unfold sg at hs ⊢; split
 ·rename_i h; have hx := h x hin; have : 0 < F * vk k c p := by rw [← hco]; exact Int.mul_pos hx hM
  refine C8g ?_; rcases Int.lt_trichotomy (vk k c p) 0 with h3 | h3 | h3
  ·have := Int.mul_neg_of_pos_of_neg hF h3; omega
  ·rw [h3] at this; simp at this
  ·exact h3
 ·rename_i h; rw [if_neg h] at hs; split
  ·rename_i h2; have hx := h2 x hin; have : F * vk k c p < 0 := by rw [← hco]; exact Int.mul_neg_of_neg_of_pos hx hM
   refine C7s ?_; rcases Int.lt_trichotomy (vk k c p) 0 with h3 | h3 | h3
   ·exact h3
   ·rw [h3] at this; simp at this
   ·have := Int.mul_pos hF h3; omega
  ·rename_i h2; rw [if_neg h2] at hs; exact absurd rfl hs
theorem C6t (k d : Nat) (c : List Int) {p : List Tm} (hp : ∀ t ∈ p, Z6 t = true ∧ B97 c.length t) (hc : c.length ≤ 3) : vk (k + d) (c.map (· * 2 ^ d)) p = ((2 : Int) ^ d) ^ 4 * vk k c p := by
 unfold vk; rw [← B48, ← B48]; have : ∀ t ∈ p, (t.c * (((2 : Int) ^ (k + d)) ^ (4 - (t.x + t.y + t.z)).toNat * G7 (c.map (· * 2 ^ d)) t (c.map (· * 2 ^ d)).length)) * 1 = ((2 : Int) ^ d) ^ 4 * (t.c * (((2 : Int) ^ k) ^ (4 - (t.x + t.y + t.z)).toNat * G7 c t c.length)) := by
  intro t ht; obtain ⟨h1, h2⟩ := hp t ht; have hb := (A07 t).1 h1; have hs := C4w h1; have e1 : ∀ m, G7 (c.map (· * 2 ^ d)) t m = G7 c t m * (2 ^ d) ^ A3n t m := by
   intro m
   induction m with
   | zero => simp [G7, A3n]
   | succ m ih =>
     have e : (c.map (· * 2 ^ d)).getD m 0 = c.getD m 0 * 2 ^ d := by
      rw [List.getD_eq_getElem?_getD, List.getD_eq_getElem?_getD, List.getElem?_map]; cases c[m]? <;> simp
     rw [G7, G7, A3n, ih, e, Int.mul_pow, Int.pow_add]; simp only [Int.mul_assoc, Int.mul_comm, Int.mul_left_comm]
  have e2 : A3n t c.length = A3n t 3 := by
   have : ∀ x, c.length + x ≤ 3 → A3n t (c.length + x) = A3n t c.length := by
    intro x
    induction x with
    | zero => intro _; rfl
    | succ x ih => intro hx; rw [← Nat.add_assoc, A3n, ih (by omega), h2 _ (by omega) (by omega)]; rfl
   have := this (3 - c.length) (by omega); rw [show c.length + (3 - c.length) = 3 by omega] at this; exact this.symm
  rw [List.length_map, e1, e2, Int.mul_one, Int.pow_add, Int.mul_pow, show (4 : Nat) = (4 - (t.x + t.y + t.z)).toNat + A3n t 3 by omega, Int.pow_add]; simp only [Int.mul_assoc, Int.mul_comm, Int.mul_left_comm]
 have h := A80 _ _ _ _ p this; rw [Int.mul_one] at h; exact h
end Go.Proofs.YtmdeppkfboaepaaGreat
namespace Go.Proofs.YtmdeppkfboaepaaGreat
open Go.Ab Ints
def mxK : List (Int × Nat) → Nat
 | [] => 0
 | x :: l => if mxK l > x.2 then mxK l else x.2
def upL (m : Nat) (l : List (Int × Nat)) : List Int := l.map fun x => x.1 * 2 ^ (m - x.2)
theorem A89 (m : Nat) (l : List (Int × Nat)) : (upL m l).length = l.length := by simp [upL]
theorem C6j (m : Nat) {l : List (Int × Nat)} {i : Nat} (h : i < l.length) : (upL m l).getD i 0 = l[i].1 * 2 ^ (m - l[i].2) := by
 simp [upL, List.getD_eq_getElem?_getD, h]
theorem C19 (x : Int × Nat) : ∀ l, mxK (l ++ [x]) = if mxK l > x.2 then mxK l else x.2
 | [] => by simp [mxK]
 | y :: l => by
   rw [List.cons_append, mxK, mxK, C19 x l]
   repeat' split
   all_goals omega
theorem D0c {l : List (Int × Nat)} {i : Nat} (h : i < l.length) : (if (mxK (l.take i) : Int) > (l[i].2 : Int) then (mxK (l.take i) : Int) else (l[i].2 : Int)) = ((mxK (l.take (i + 1)) : Nat) : Int) := by
 rw [List.take_succ_eq_append_getElem h, C19]; split <;> split <;> omega
theorem C4m {B : Nat} : ∀ {l : List (Int × Nat)}, (∀ x ∈ l, x.2 ≤ B) → mxK l ≤ B
 | [], _ => Nat.zero_le _
 | x :: l, h => by
   have h1 := h x (by simp); have h2 := C4m (l := l) fun y hy => h y (by simp [hy])
   rw [mxK]; split <;> omega
theorem C4r (x : Int × Nat) : ∀ {l : List (Int × Nat)}, x ∈ l → x.2 ≤ mxK l
 | y :: l, h => by
   rw [mxK]; rcases List.mem_cons.1 h with rfl | h
   ·split <;> omega
   ·have := C4r x h; split <;> omega
theorem D0b (lim : Nat) (n : Int) (k d : Nat) (H : A1) (hl : lim ≤ H.next) (hk : k ≤ d) (hd : d ≤ 20) (hn : n.natAbs ≤ 1099511627776) : A5 Tryz.prog lim B3v [dyV n k, .int .i64 (d : Int)] H fun v H' => v = .tuple #[.int .i64 (n * 2 ^ (d - k)), .bool true] ∧ Ext H H' := by
 refine B1e.go rfl ?_; unfold A6d dyV; refine A0 ?_; simp only [sS, M5, C2]; have hx := Ext.alloc H [.int .i64 n, .int .i64 (k : Int)]; have hb : (H.alloc [.int .i64 n, .int .i64 (k : Int)]).blk H.next = some [.int .i64 n, .int .i64 (k : Int)] := A6 _ _; have hbl : H.next < (H.alloc [.int .i64 n, .int .i64 (k : Int)]).next := Nat.lt_succ_self _; generalize H.alloc [.int .i64 n, .int .i64 (k : Int)] = H1 at hx hb hbl ⊢; generalize hq : H.next = q at *
 refine A9 ?_; simp only [sS, Nat.zero_add, B7 hb]; refine C4.split (fun h => ?_) (fun h => ?_)
 ·have h' : n = 0 := by simpa using h
  subst h'; refine A0 ?_; simp only [sS]; refine A3 ?_; simp +decide only [sQ]; exact ⟨by simp, hx⟩
 refine A2 ?_; simp +decide only [sQ]; refine C7 (A0 ?_); simp only [sS, Nat.zero_add, B7 hb]; refine A7 ?_; refine B9 (fun j e' H' => ∃ m : Nat, k + m + j = d ∧ H'.blk q = some [.int .i64 (n * 2 ^ m), .int .i64 (k : Int)] ∧ q < H'.next ∧ Ext H H' ∧ e' = [.agg #[.int .i64 n, .int .i64 (k : Int)], .int .i64 (d : Int), .pointer (some ⟨q, 0, none⟩), .int .i64 0, .bool false, .int .i64 ((k + m : Nat) : Int)]) (d - k) ⟨0, by omega, by rw [Int.pow_zero, Int.mul_one]; exact hb, hbl, hx, rfl⟩ ?_; rintro j e' H2 ⟨m, hmj, hb2, hbl2, hx2, rfl⟩; refine A9 ?_; simp only [sS]; refine C4.split (fun hlt => ?_) (fun hlt => ?_)
 ·have hlt' : k + m < d := by have := of_decide_eq_true hlt; omega
  have b1 : (n * 2 ^ m).natAbs ≤ 1099511627776 * 524288 := by
   rw [Int.natAbs_mul, Int.natAbs_pow]; have : (2 : Int).natAbs ^ m ≤ 2 ^ 19 := Nat.pow_le_pow_right (by decide) (by omega); exact Nat.mul_le_mul hn (by simpa using this)
  have p60 : (2 : Int) ^ 60 = 1152921504606846976 := by decide
  have w60 : IntKind.i64.wrap (0 - (2 : Int) ^ 60) = -1152921504606846976 := by rw [p60]; decide
  have hin : (decide (-1152921504606846976 ≤ n * 2 ^ m) && decide (n * 2 ^ m ≤ 2 ^ 60)) = true := by
   rw [p60]; simp; omega
  have w2 : IntKind.i64.wrap (n * 2 ^ m * 2) = n * 2 ^ (m + 1) := by
   rw [Int.pow_succ, ← Int.mul_assoc]; exact E3 (by omega) (by omega)
  refine A2 ?_; simp +decide only [sQ]; refine A8 ?_; refine A9 ?_; simp only [sS, Nat.zero_add, B7 hb2]; refine (Ints.O4 _ 60 H2 (by omega)).use ?_; rintro _ HH ⟨rfl, hh⟩ _; subst HH; simp only [sS, w60]; refine (Ints.O4 _ 60 H2 (by omega)).use ?_; rintro _ HH ⟨rfl, hh⟩ _; subst HH; simp only [sS]; refine (Ints.L6 _ _ _ _ _).eq ?_; rw [hin]; simp only [sS]; refine C4.false_ (A2 ?_); simp +decide only [sQ]; have hst : C8 lim H2 1 (.pointer (some ⟨q, 0, none⟩)) (.int .i64 (n * 2 ^ (m + 1))) = some (undef, H2.put q [.int .i64 (n * 2 ^ (m + 1)), .int .i64 (k : Int)]) := S3 rfl (by omega) hb2 (by simp); refine A4 ?_; simp only [sS, Nat.zero_add, B7 hb2, w2, hst]; simp +decide only [sQ]; refine A4 ?_; simp only [sS, D6 (i := k + m) (by omega)]; simp +decide only [sQ]; exact C6.mk (j - 1) (by omega) ⟨m + 1, by omega, D3 _ _ _, hbl2, Chg.ext hx2 (Chg.put _ _ _) (by omega), rfl⟩
 ·have hge : m = d - k := by have := of_decide_eq_false hlt; omega
  subst hge; refine B8 ?_; simp +decide only [sQ, reduceIte]; refine A0 ?_; simp only [sS, Nat.zero_add, B7 hb2]; refine A3 ?_; simp +decide only [sQ]; exact ⟨trivial, hx2⟩
theorem C75 (lim : Nat) (s pt : Value) (p : List Tm) (l : List (Int × Nat)) (H : A1) (hl : lim ≤ H.next) (hs : SlT H s p) (hp : SlQ H pt l) (hn : p.length ≤ 1000000) (hln : l.length ≤ 3) (hok : ∀ t ∈ p, Z6 t = true) (hgd : ∀ x ∈ l, GD x) :
 A5 Tryz.prog lim C09 [s, pt] H fun v H' => (∃ r r2, v = .tuple #[.int .i64 r, .int .i64 r2] ∧ inR r ∧ cg r (vk (mxK l) (upL (mxK l) l) p)) ∧ Ext H H' := by
 have hm9 := C4m (fun x hx => (hgd x hx).k9); refine B8b.go rfl ?_; unfold B0p; refine A0 ?_; simp only [sS]; refine A0 ?_; simp only [sS]; refine C7 (A0 ?_); simp only [sS, hp.lenV]; refine A7 ?_; refine B9 (fun k e' H' => ∃ (i : Nat) (x5 x6 x7 x8 x9 x10 x11 x12 x13 x17 x18 x19 x20 x21 x22 : Value), i + k = l.length ∧ Ext H H' ∧ e' = [s, pt, .int .i64 0, .int .i64 0, .int .i64 (mxK (l.take i) : Nat), x5, x6, x7, x8, x9, x10, x11, x12, x13, pt, .int .i64 l.length, .int .i64 i, x17, x18, x19, x20, x21, x22]) l.length ⟨0, _, _, _, _, _, _, _, _, _, _, _, _, _, _, _, by omega, Ext.refl _, rfl⟩ ?_; rintro k e' H' ⟨i, x5, x6, x7, x8, x9, x10, x11, x12, x13, x17, x18, x19, x20, x21, x22, hik, hx, rfl⟩; have hnx := hx.next; refine A9 ?_; simp only [sS]; refine C4.split (fun hlt => ?_) (fun hlt => ?_)
 ·have hlt' : i < l.length := by simpa using hlt
  obtain ⟨b1, o1, h1, hat⟩ := (hp.ext hx).at hlt'; have htk := D0c hlt'; generalize l[i] = n at hat htk; refine A2 ?_; simp +decide only [sQ]; refine A7 ?_; refine A0 ?_; simp only [sS, h1, hat.all, A9d (lim := lim) (H := H') (by omega)]; have hB := A7r.mk' H' n; generalize H'.alloc [vi n.1, vi (n.2 : Int)] = H1 at hB ⊢; generalize H'.next = q at hB hnx ⊢; have hx1 := hx.trans hB.ext; refine A4 ?_; simp only [sS, Nat.zero_add, hB.c1]; refine (V7 _ _ _ _).eq ?_; rw [htk]; simp only [sS]; simp +decide only [sQ]; refine A4 ?_; simp only [sS, D6 (i := i) (by omega)]; simp +decide only [sQ]; exact C6.mk (k - 1) (by omega) ⟨i + 1, _, _, _, _, _, _, _, _, _, _, _, _, _, _, _, by omega, hx1, rfl⟩
 have hie : l.take i = l := by rw [List.take_of_length_le]; simp at hlt; omega
 rw [hie]; clear hie; generalize hM : mxK l = M at hm9 ⊢; refine B8 ?_; simp +decide only [sQ, reduceIte]; refine A0 ?_; simp only [sS]; have hsx := hs.ext hx; refine C7 (A0 ?_); simp only [sS, hsx.lenV]; refine A7 ?_; clear hlt hik; refine B9 (fun k e' H'' => ∃ (j : Nat) (r : Int) (x5 x7 x8 x9 x10 x11 x12 x13 x20 x21 x22 : Value), j + k = p.length ∧ inR r ∧ cg r (vk M (upL M l) (p.take j)) ∧ Ext H H'' ∧ e' = [s, pt, .int .i64 0, .int .i64 0, .int .i64 M, x5, .int .i64 r, x7, x8, x9, x10, x11, x12, x13, pt, .int .i64 l.length, .int .i64 i, s, .int .i64 p.length, .int .i64 j, x20, x21, x22]) p.length ⟨0, 0, _, _, _, _, _, _, _, _, _, _, _, by omega, by unfold inR; omega, cg.of_eq (by simp [vk, ev]), hx, rfl⟩ ?_; clear hx hnx hsx x5 x7 x8 x9 x10 x11 x12 x13 x20 x21 x22; rintro k e' H' ⟨j, r, x5, x7, x8, x9, x10, x11, x12, x13, x20, x21, x22, hjk, hr, hcg, hx, rfl⟩; have hnx := hx.next; refine A9 ?_; simp only [sS]; refine C4.split (fun hlt => ?_) (fun hlt => ?_)
 ·have hlt' : j < p.length := by simpa using hlt
  obtain ⟨b1, o1, h1, hat⟩ := (hs.ext hx).at hlt'; have htake := C7b (φ := fun t => ((2 : Int) ^ M) ^ (4 - (t.x + t.y + t.z)).toNat * G7 (upL M l) t (upL M l).length) hlt'; have hokt := hok _ (List.getElem_mem hlt'); generalize p[j] = t at hat htake hokt; have hokb := (A07 t).1 hokt; refine A2 ?_; simp +decide only [sQ]; refine A7 ?_; refine A0 ?_; simp only [sS, h1, hat.all, K8 (lim := lim) (H := H') (by omega)]; have hB := J8.mk' H' t; generalize H'.alloc (tc t) = H1 at hB ⊢; generalize H'.next = q at hB hnx ⊢; have hx1 := hx.trans hB.ext; have hnx1 := hx1.next; refine A0 ?_; simp only [sS, Nat.zero_add, hB.c0]; refine C7 (A0 ?_); have hpx := hp.ext hx1; simp only [sS, hpx.lenV]; refine A7 ?_; refine B9 (fun k2 e' H'' => ∃ (m : Nat) (w : Int) (x9 x10 x11 x12 : Value), m + k2 = l.length ∧ inR w ∧ cg w (t.c * G7 (upL M l) t m) ∧ Ext H1 H'' ∧ e' = [s, pt, .int .i64 0, .int .i64 0, .int .i64 M, x5, .int .i64 r, .pointer (some ⟨q, 0, none⟩), .int .i64 w, x9, x10, x11, x12, x13, pt, .int .i64 l.length, .int .i64 i, s, .int .i64 p.length, .int .i64 j, pt, .int .i64 l.length, .int .i64 m]) l.length ⟨0, t.c, _, _, _, _, by omega, by unfold inR; omega, cg.of_eq (by simp [G7]), Ext.refl _, rfl⟩ ?_; clear x9 x10 x11 x12; rintro k2 e' H2 ⟨m, w, x9, x10, x11, x12, hmk, hw, hcw, hx2, rfl⟩; have hnx2 := hx2.next; refine A9 ?_; simp only [sS]; refine C4.split (fun hlt2 => ?_) (fun hlt2 => ?_)
  ·have hlt2' : m < l.length := by simpa using hlt2
   obtain ⟨b2, o2, h2, hat2⟩ := (hpx.ext hx2).at hlt2'; have hgn := C6j M hlt2'; have hgm := hgd _ (List.getElem_mem hlt2'); have hkM : (l[m]).2 ≤ M := by rw [← hM]; exact C4r _ (List.getElem_mem hlt2')
   have hns := hgm.small; generalize l[m] = n at hat2 hgn hkM hns; clear hgm; refine A2 ?_; simp +decide only [sQ]; refine A7 ?_; refine A0 ?_; simp only [sS, h2, hat2.all, A9d (lim := lim) (H := H2) (by omega)]; have hB2 := A7r.mk' H2 n; generalize H2.alloc [vi n.1, vi (n.2 : Int)] = H3 at hB2 ⊢; generalize H2.next = q2 at hB2 hnx2 ⊢; have hx3 := hx2.trans hB2.ext; have hnx3 := hx3.next; refine A0 ?_; simp only [sS, hB2.all]; refine (D0b lim n.1 n.2 M H3 (by omega) hkM (by omega) (by omega)).mono ?_; rintro _ H4 ⟨rfl, hx4⟩; have hB4 := hB.mono (hx3.trans hx4); simp only [sS]; refine A0 ?_; simp only [sS, hB4.all]; refine (B6k _ _ _ _).mono ?_; rintro _ H5 ⟨rfl, hx5⟩; simp only [sS]; have hpos := (C20 hokt m); refine A8 ?_; refine B9 (fun k3 e' H'' => H'' = H5 ∧ ∃ (u : Int), inR u ∧ k3 ≤ (pw t m).toNat ∧ cg u (t.c * G7 (upL M l) t m * (n.1 * 2 ^ (M - n.2)) ^ ((pw t m).toNat - k3)) ∧ e' = [s, pt, .int .i64 0, .int .i64 0, .int .i64 M, x5, .int .i64 r, .pointer (some ⟨q, 0, none⟩), .int .i64 u, .int .i64 m, .pointer (some ⟨q2, 0, none⟩), .int .i64 (n.1 * 2 ^ (M - n.2)), .int .i64 k3, x13, pt, .int .i64 l.length, .int .i64 i, s, .int .i64 p.length, .int .i64 j, pt, .int .i64 l.length, .int .i64 m]) (pw t m).toNat ⟨rfl, w, hw, Nat.le_refl _, by simpa using hcw, by rw [Int.toNat_of_nonneg hpos.1]⟩ ?_; rintro k3 e' H6 ⟨rfl, u, hu, hk3, hcu, rfl⟩; refine A9 ?_; simp only [sS]; refine C4.split (fun hlt3 => ?_) (fun hlt3 => ?_)
   ·have hlt3' : 0 < k3 := by have := of_decide_eq_true hlt3; omega
    obtain ⟨k3, rfl⟩ : ∃ k, k3 = k + 1 := ⟨k3 - 1, by omega⟩; refine A2 ?_; simp +decide only [sQ]; refine A7 ?_; refine A4 ?_; simp only [sS]; simp +decide only [sQ]; have w2 : IntKind.i64.wrap (((k3 + 1 : Nat) : Int) - 1) = (k3 : Int) := by rw [show ((k3 + 1 : Nat) : Int) - 1 = (k3 : Int) by omega]; exact J0 (by omega)
    refine A4 ?_; simp only [sS, w2]; simp +decide only [sQ]; refine C6.mk k3 (by omega) ⟨rfl, W (u * (n.1 * 2 ^ (M - n.2))), C8f _, by omega, ?_, rfl⟩; refine (C4q _).trans ((hcu.mul (cg.refl _)).trans (cg.of_eq ?_)); rw [Int.mul_assoc, ← Int.pow_succ, show ((pw t m).toNat - (k3 + 1)).succ = (pw t m).toNat - k3 by omega]
   ·have hk0 : k3 = 0 := by have := of_decide_eq_false hlt3; omega
    subst hk0; refine B8 ?_; simp +decide only [sQ, reduceIte]; refine A4 ?_; simp only [sS, D6 (i := m) (by omega)]; simp +decide only [sQ]; refine C6.mk (k2 - 1) (by omega) ⟨m + 1, u, _, _, _, _, by omega, hu, ?_, hx3.trans (hx4.trans hx5), rfl⟩; refine hcu.trans (cg.of_eq ?_); rw [G7, hgn, Int.mul_assoc, Nat.sub_zero]
  have hm : m = l.length := by simp at hlt2; omega
  subst hm; refine B8 ?_; simp +decide only [sQ, reduceIte]; have hB2 := hB.mono hx2; have wd1 : IntKind.i64.wrap (t.x + t.y) = t.x + t.y := E3 (by omega) (by omega); have wd2 : IntKind.i64.wrap (t.x + t.y + t.z) = t.x + t.y + t.z := E3 (by omega) (by omega); refine C7 (A0 ?_); simp only [sS, Nat.zero_add, hB2.c1, hB2.c2, hB2.c3, wd1, wd2]; refine A7 ?_; refine B9 (fun k3 e' H'' => H'' = H2 ∧ ∃ (d w2 : Int) (f : Nat), d + k3 = 4 ∧ 0 ≤ d ∧ (f : Int) = d - (t.x + t.y + t.z) ∧ inR w2 ∧ cg w2 (t.c * G7 (upL M l) t l.length * ((2 : Int) ^ M) ^ f) ∧ e' = [s, pt, .int .i64 0, .int .i64 0, .int .i64 M, x5, .int .i64 r, .pointer (some ⟨q, 0, none⟩), .int .i64 w2, x9, x10, x11, x12, .int .i64 d, pt, .int .i64 l.length, .int .i64 i, s, .int .i64 p.length, .int .i64 j, pt, .int .i64 l.length, .int .i64 l.length]) (4 - (t.x + t.y + t.z)).toNat ⟨rfl, t.x + t.y + t.z, w, 0, by omega, by omega, by omega, hw, by simpa using hcw, rfl⟩ ?_; rintro k3 e' H3 ⟨rfl, d, w2, f, hd, hd0, hf, hw2, hcw2, rfl⟩; refine A9 ?_; simp only [sS]; refine C4.split (fun hlt3 => ?_) (fun hlt3 => ?_)
  ·have hlt3' := of_decide_eq_true hlt3; refine A2 ?_; simp +decide only [sQ]; refine A7 ?_; refine A4 ?_; simp only [sS]; refine (Ints.O4 _ M _ (by omega)).eq ?_; simp only [sS]; simp +decide only [sQ]; have v2 : IntKind.i64.wrap (d + 1) = d + 1 := E3 (by omega) (by omega); refine A4 ?_; simp only [sS, v2]; simp +decide only [sQ]; refine C6.mk (k3 - 1) (by omega) ⟨rfl, d + 1, W (w2 * 2 ^ M), f + 1, by omega, by omega, by omega, C8f _, ?_, rfl⟩; refine (C4q _).trans ((hcw2.mul (cg.refl _)).trans (cg.of_eq ?_)); rw [Int.mul_assoc, ← Int.pow_succ]
  have hf4 : f = (4 - (t.x + t.y + t.z)).toNat := by have := of_decide_eq_false hlt3; omega
  subst hf4; refine B8 ?_; simp +decide only [sQ, reduceIte]; refine A4 ?_; simp only [sS]; simp +decide only [sQ]; refine A4 ?_; simp only [sS, D6 (i := j) (by omega)]; simp +decide only [sQ]; refine C6.mk (k - 1) (by omega) ⟨j + 1, W (r + w2), _, _, _, _, _, _, _, _, _, _, _, by omega, C8f _, ?_, hx1.trans hx2, rfl⟩; refine (C4q _).trans ((hcg.add hcw2).trans (cg.of_eq ?_)); unfold vk; rw [htake, A89, Int.mul_assoc, Int.mul_comm (G7 _ _ _)]
 ·have hj : j = p.length := by simp at hlt; omega
  subst hj; refine B8 ?_; simp +decide only [sQ, reduceIte]; refine A0 ?_; simp only [sS]; refine A3 ?_; simp +decide only [sQ]; rw [List.take_length] at hcg; exact ⟨⟨r, _, rfl, hr, hcg⟩, hx⟩
end Go.Proofs.YtmdeppkfboaepaaGreat
namespace Go.Proofs.YtmdeppkfboaepaaGreat
open Go.Ab Ints
def C6w (n k : Int) : Bool := (decide ((0 : Int) ≤ k) && decide (k ≤ 24)) && (decide (-1099511627776 ≤ n) && decide (n ≤ 1099511627776)) && (k == 0 || n.tmod 2 != 0)
theorem GD.good {x : Int × Nat} (h : GD x) : C6w x.1 x.2 = true := by
 have h1 := h.small; have h2 := h.k9; have h3 := h.odd; unfold C6w; simp; omega
theorem C36 (lim : Nat) (k : Int) (H : A1) : A5 Tryz.prog lim B4y [.int .i64 k] H fun v H' => v = .bool (decide (0 ≤ k) && decide (k ≤ 24)) ∧ H' = H := by
 refine B28.go rfl ?_; unfold A43; refine A0 ?_; simp only [sS]; refine A0 ?_; simp only [sS]; refine (J7 _ _ _ _ _).eq ?_; simp only [sS]; refine A3 ?_; simp +decide only [sQ]
theorem C34 (lim : Nat) (n k : Int) (H : A1) : A5 Tryz.prog lim B4c [.agg #[vi n, vi k]] H fun v H' => v = .bool (C6w n k) ∧ Ext H H' := by
 refine B2g.go rfl ?_; unfold A4i; refine A0 ?_; simp only [sS, M5, C2]; have hx := Ext.alloc H [vi n, vi k]; have hb : (H.alloc [vi n, vi k]).blk H.next = some [vi n, vi k] := A6 _ _; generalize H.alloc [vi n, vi k] = H1 at hx hb ⊢; have e2 : ¬ ((2 : Int) = 0) := by decide
 refine A0 ?_; simp only [sS, Nat.zero_add, B7 hb]; refine (C36 _ _ _).eq ?_; unfold C6w; generalize (decide ((0 : Int) ≤ k) && decide (k ≤ 24)) = A; cases A
 ·simp only [sS]; refine A3 ?_; simp +decide only [sQ]; exact ⟨by simp, hx⟩
 ·simp only [sS, Nat.zero_add, B7 hb]; refine (J7 _ _ _ _ _).eq ?_; generalize (decide (-1099511627776 ≤ n) && decide (n ≤ 1099511627776)) = B; cases B
  ·simp only [sS]; refine A3 ?_; simp +decide only [sQ]; exact ⟨by simp, hx⟩
  ·by_cases h0 : k = 0
   ·have d0 : (k == 0) = true := by simpa using h0
    simp only [sS, Nat.zero_add, B7 hb, d0]; refine A3 ?_; simp +decide only [sQ]; exact ⟨by simp, hx⟩
   ·have d0 : (k == 0) = false := by simpa using h0
    simp only [sS, Nat.zero_add, B7 hb, d0, e2]; refine A3 ?_; simp +decide only [sQ]; exact ⟨by simp, hx⟩
theorem B4m (lim : Nat) (n : Int × Nat) (H : A1) (hn : GD n) : A5 Tryz.prog lim A9m [dV n] H fun v H' => v = .bool true ∧ Ext H H' := by
 refine A7q.go rfl ?_; unfold A05; refine A0 ?_; simp only [sS, M5, C2]; have hB := A7r.mk' H n; generalize H.alloc [vi n.1, vi (n.2 : Int)] = H1 at hB ⊢; generalize H.next = q at hB ⊢; have hk9 := hn.k9; have hlo := hn.abs; have d9 : decide ((n.2 : Int) ≤ 9) = true := by simp; omega
 have d1 : ¬ ((n.2 : Int) < 0) := by omega
 have hP : ((2 ^ n.2 : Nat) : Int) = (2 : Int) ^ n.2 := by push_cast; rfl
 have hP2 : 2 ^ n.2 ≤ 2 ^ 9 := Nat.pow_le_pow_right (by decide) hk9; have w0 : min (n.2 : Int).toNat IntKind.i64.bits = n.2 := by rw [Int.toNat_natCast, show IntKind.i64.bits = 64 from rfl]; omega
 have w1 : IntKind.i64.wrap (-8 * 2 ^ n.2) = -8 * 2 ^ n.2 := E3 (by omega) (by omega); have w2 : IntKind.i64.wrap (8 * 2 ^ n.2) = 8 * 2 ^ n.2 := E3 (by omega) (by omega); have e1 : (decide (-8 * 2 ^ n.2 ≤ n.1) && decide (n.1 ≤ 8 * 2 ^ n.2)) = true := by simp; omega
 refine A0 ?_; simp only [sS, hB.all]; refine (C34 lim n.1 n.2 H1).mono ?_; rintro _ H2 ⟨rfl, hx2⟩; rw [hn.good]; have hB2 := hB.mono hx2; simp only [sS, Nat.zero_add, hB2.c1, hB2.c0, d9, d1, w0, w1, w2]; refine (J7 _ _ _ _ _).eq ?_; rw [e1]; simp only [sS]; refine A3 ?_; simp +decide only [sQ]; exact ⟨trivial, hB2.ext⟩
theorem B4q (lim : Nat) (n : Int × Nat) (H : A1) (hn : GD n) : A5 Tryz.prog lim A0d [dV n] H fun v H' => v = .bool false ∧ Ext H H' := by
 refine A5x.go rfl ?_; unfold A0f; refine A0 ?_; simp only [sS, M5, C2]; have hB := A7r.mk' H n; generalize H.alloc [vi n.1, vi (n.2 : Int)] = H1 at hB ⊢; generalize H.next = q at hB ⊢; refine A0 ?_; simp only [sS, hB.all]; refine (B4m lim n H1 hn).mono ?_; rintro _ H2 ⟨rfl, hx2⟩; simp only [sS]; refine A3 ?_; simp +decide only [sQ]; exact ⟨trivial, hB.ext.trans hx2⟩
theorem C43 (lim : Nat) (s : Value) (l : List (Int × Nat)) (H : A1) (hs : SlQ H s l) (hn : 1 ≤ l.length ∧ l.length ≤ 3) (hb : ∀ n ∈ l, GD n) :
 A5 Tryz.prog lim O7 [s, ptF] H fun v H' => v = .int .i64 (-1) ∧ Ext H H' := by
 refine O1.go rfl ?_; unfold J2; refine A0 ?_; simp only [sS]; refine C7 (A0 ?_); simp only [sS, hs.lenV]; refine A7 ?_; refine B9 (fun k e' H' => ∃ (i : Nat) (x : Value), i + k = l.length ∧ Ext H H' ∧ e' = [s, ptF, .int .i64 0, x, .int .i64 l.length, .int .i64 i]) l.length ⟨0, _, by omega, Ext.refl _, rfl⟩ ?_; rintro k e' H' ⟨i, x, hik, hx, rfl⟩; refine A9 ?_; simp only [sS]; refine C4.split (fun hlt => ?_) (fun hlt => ?_)
 ·have hlt' : i < l.length := by simpa using hlt
  obtain ⟨b1, o1, h1, a1⟩ := (hs.ext hx).at hlt'; have hbi := hb _ (List.getElem_mem hlt'); generalize l[i] = n at a1 hbi; refine A2 ?_; simp +decide only [sQ]; refine A7 ?_; refine A0 ?_; simp only [sS]; refine S8 false (Ext H) ?_ (fun H2 hx2 hg => absurd hg (by decide)) (fun H2 hx2 _ => ?_)
  ·simp only [sS, h1, a1.all]; refine (B4q _ _ _ hbi).mono ?_; rintro _ H2 ⟨rfl, hx2⟩; simp only [sS]; exact ⟨trivial, trivial, hx.trans hx2⟩
  ·refine A2 ?_; simp +decide only [sQ]; refine A4 ?_; simp only [sS, D6 (i := i) (by omega)]; simp +decide only [sQ]; exact C6.mk (k - 1) (by omega) ⟨i + 1, _, by omega, hx2, rfl⟩
 ·have hi : i = l.length := by simp at hlt; omega
  subst hi; refine B8 ?_; simp +decide only [sQ, reduceIte]; refine A0 ?_; simp only [sS]; refine A3 ?_; simp +decide only [sQ]; exact ⟨trivial, hx⟩
theorem B80 (lim : Nat) (s : Value) (l : List (Int × Nat)) (H : A1) (hs : SlQ H s l) (hn : 1 ≤ l.length ∧ l.length ≤ 3) (hb : ∀ n ∈ l, GD n) :
 A5 Tryz.prog lim N6 [s, ptF] H fun v H' => v = .bool false ∧ Ext H H' := by
 refine N0.go rfl ?_; unfold I6; refine A0 ?_; simp only [sS]; refine A0 ?_; simp only [sS]; refine (C43 lim s l H hs hn hb).mono ?_; rintro _ H2 ⟨rfl, hx2⟩; have d0 : decide ((-1 : Int) ≥ 0) = false := by decide
 simp only [sS, d0]; refine A3 ?_; simp +decide only [sQ]; exact ⟨trivial, hx2⟩
theorem B7i (lim : Nat) (s : Value) (l : List (Int × Nat)) (H : A1) (hs : SlQ H s l) (hn : 1 ≤ l.length ∧ l.length ≤ 3) (hb : ∀ n ∈ l, GD n) :
 A5 Tryz.prog lim B1u [s] H fun v H' => v = .bool true ∧ Ext H H' := by
 refine A9i.go rfl ?_; unfold A2a; refine A0 ?_; simp only [sS]; refine A0 ?_; simp only [sS, hs.lenV]; refine (J7 _ _ _ _ _).eq ?_; have hc : (decide (1 ≤ (l.length : Int)) && decide ((l.length : Int) ≤ 3)) = true := by simp; omega
 rw [hc]; simp only [sS]; refine (B80 lim s l H hs hn hb).mono ?_; rintro _ H2 ⟨rfl, hx2⟩; simp only [sS]; refine A3 ?_; simp +decide only [sQ]; exact ⟨by simp, hx2⟩
theorem C1j (lim : Nat) (s pt : Value) (p : List Tm) (l : List (Int × Nat)) (H : A1) (hl : lim ≤ H.next) (hs : SlT H s p) (hp : SlQ H pt l) (hn : p.length ≤ 1000000) (hln : l.length ≤ 3) (hok : ∀ t ∈ p, Z6 t = true ∧ B97 l.length t) (hgd : ∀ x ∈ l, GD x) :
 A5 Tryz.prog lim B40 [s, pt] H fun v H' => (∃ r, v = .int .i64 r ∧ inR r ∧ cg r (vk 9 (upL 9 l) p)) ∧ Ext H H' := by
 refine B2m.go rfl ?_; unfold A41; refine A0 ?_; simp only [sS]; refine A0 ?_; simp only [sS]; refine C7 (A0 ?_); simp only [sS, hs.lenV]; refine A7 ?_; refine B9 (fun k e' H' => ∃ (j : Nat) (r : Int) (x4 x5 x6 x7 x11 x12 x13 x14 : Value), j + k = p.length ∧ inR r ∧ cg r (vk 9 (upL 9 l) (p.take j)) ∧ Ext H H' ∧ e' = [s, pt, .int .i64 0, .int .i64 r, x4, x5, x6, x7, s, .int .i64 p.length, .int .i64 j, x11, x12, x13, x14]) p.length ⟨0, 0, _, _, _, _, _, _, _, _, by omega, by unfold inR; omega, cg.of_eq (by simp [vk, ev]), Ext.refl _, rfl⟩ ?_; rintro k e' H' ⟨j, r, x4, x5, x6, x7, x11, x12, x13, x14, hjk, hr, hcg, hx, rfl⟩; have hnx := hx.next; refine A9 ?_; simp only [sS]; refine C4.split (fun hlt => ?_) (fun hlt => ?_)
 ·have hlt' : j < p.length := by simpa using hlt
  obtain ⟨b1, o1, h1, hat⟩ := (hs.ext hx).at hlt'; have htake := C7b (φ := fun t => ((2 : Int) ^ 9) ^ (4 - (t.x + t.y + t.z)).toNat * G7 (upL 9 l) t (upL 9 l).length) hlt'; obtain ⟨hokt, hlack⟩ := hok _ (List.getElem_mem hlt'); generalize p[j] = t at hat htake hokt hlack; have hokb := (A07 t).1 hokt; refine A2 ?_; simp +decide only [sQ]; refine A7 ?_; refine A0 ?_; simp only [sS, h1, hat.all, K8 (lim := lim) (H := H') (by omega)]; have hB := J8.mk' H' t; generalize H'.alloc (tc t) = H1 at hB ⊢; generalize H'.next = q at hB hnx ⊢; have hx1 := hx.trans hB.ext; have hnx1 := hx1.next; obtain ⟨d, hd⟩ : ∃ d : Nat, (d : Int) = 4 - (t.x + t.y + t.z) := ⟨(4 - (t.x + t.y + t.z)).toNat, by omega⟩; refine A0 ?_; simp only [sS, Nat.zero_add, hB.c0, hB.all]; refine (A64 H1.next t H1 (by omega) (by omega) (by omega)).use ?_; rintro _ H2 ⟨rfl, hx2⟩ _; have hB2 := hB.mono hx2; have hnx2 := hx2.next; have w1 : IntKind.i64.wrap (4 - (t.x + t.y + t.z)) = (d : Int) := by rw [← hd]; exact J0 (by omega)
  have w2 : IntKind.i64.wrap (9 * (d : Int)) = ((9 * d : Nat) : Int) := by rw [show (9 : Int) * (d : Int) = ((9 * d : Nat) : Int) by omega]; exact J0 (by omega)
  have w3 : ¬ ((((9 * d : Nat) : Int)) < 0) := by omega
  have w4 : min ((9 * d : Nat) : Int).toNat IntKind.i64.bits = 9 * d := by
   rw [Int.toNat_natCast, show IntKind.i64.bits = 64 from rfl]; omega
  simp only [sS, w1, w2, w3, w4]; refine C7 (A0 ?_); simp only [sS, hB2.all]; refine (A0j lim _ _ (by omega)).mono ?_; rintro _ H3 ⟨rfl, hx3⟩; simp only [sS]; have hx03 := hx1.trans (hx2.trans hx3); have hnx3 := hx03.next; refine A7 ?_; refine B9 (fun k2 e' H'' => H'' = H3 ∧ ∃ (u : Nat) (w : Int) (x6 x7 x13 x14 : Value), u + k2 = 3 ∧ inR w ∧ cg w (t.c * 2 ^ (9 * d) * G7 (upL 9 l) t u) ∧ e' = [s, pt, .int .i64 0, .int .i64 r, .pointer (some ⟨q, 0, none⟩), .int .i64 w, x6, x7, s, .int .i64 p.length, .int .i64 j, C8b t, .int .i64 u, x13, x14]) 3 ⟨rfl, 0, W (t.c * 2 ^ (9 * d)), _, _, _, _, by omega, C8f _, (C4q _).trans (cg.of_eq (by simp [G7])), rfl⟩ ?_; rintro k2 e' H4 ⟨rfl, u, w, x6, x7, x13, x14, huk, hw, hcw, rfl⟩; refine A9 ?_; simp only [sS]; refine C4.split (fun hlt3 => ?_) (fun hlt3 => ?_)
  ·have hu : u < 3 := by simp at hlt3; omega
   have hpos := C20 hokt u; have hex := D4n t u hu; refine A2 ?_; simp +decide only [sQ]; refine A7 ?_; refine A0 ?_; simp only [sS, C67 hu]; refine A0 ?_; simp only [sS]; refine A8 ?_; refine B9 (fun k3 e' H'' => H'' = H4 ∧ ∃ (z : Int) (m : Nat), m + k3 = (pw t u).toNat ∧ inR z ∧ cg z (t.c * 2 ^ (9 * d) * G7 (upL 9 l) t u * (upL 9 l).getD u 0 ^ m) ∧ e' = [s, pt, .int .i64 0, .int .i64 r, .pointer (some ⟨q, 0, none⟩), .int .i64 z, .int .i64 u, .int .i64 (ex t u), s, .int .i64 p.length, .int .i64 j, C8b t, .int .i64 u, .int .i64 (ex t u), .int .i64 m]) (pw t u).toNat ⟨rfl, w, 0, by omega, hw, by simpa using hcw, rfl⟩ ?_; rintro k3 e' H5 ⟨rfl, z, m, hm, hz, hcz, rfl⟩; refine A9 ?_; simp only [sS]; refine C4.split (fun hlt4 => ?_) (fun hlt4 => ?_)
   ·have hlt4' : (m : Int) < ex t u := of_decide_eq_true hlt4; have hul : u < l.length := by
     rcases Nat.lt_or_ge u l.length with h | h
     ·exact h
     ·have := hlack u h hu; omega
    obtain ⟨b2, o2, h2, hat2⟩ := (hp.ext hx03).at hul; have hgn := C6j 9 hul; have hgm := hgd _ (List.getElem_mem hul); generalize l[u] = n at hat2 hgn hgm; have hk9 := hgm.k9; clear hgm; have v1 : IntKind.i64.wrap (9 - (n.2 : Int)) = ((9 - n.2 : Nat) : Int) := by rw [show (9 : Int) - (n.2 : Int) = ((9 - n.2 : Nat) : Int) by omega]; exact J0 (by omega)
    have v2 : ¬ (((9 - n.2 : Nat) : Int) < 0) := by omega
    have v3 : min ((9 - n.2 : Nat) : Int).toNat IntKind.i64.bits = 9 - n.2 := by
     rw [Int.toNat_natCast, show IntKind.i64.bits = 64 from rfl]; omega
    refine A2 ?_; simp +decide only [sQ]; refine A7 ?_; refine A4 ?_; simp only [sS, h2, Nat.add_zero, hat2.c, hat2.k, v1, v2, v3]; simp +decide only [sQ]; refine A4 ?_; simp only [sS, D6 (i := m) (by omega)]; simp +decide only [sQ]; refine C6.mk (k3 - 1) (by omega) ⟨rfl, _, m + 1, by omega, C8f _, ?_, rfl⟩; refine (C4q _).trans ((hcz.mul (C4q _)).trans (cg.of_eq ?_)); rw [hgn, Int.pow_succ]; simp only [Int.mul_assoc]
   ·have hge := of_decide_eq_false hlt4; have hme : m = (pw t u).toNat := by omega
    subst hme; refine B8 ?_; simp +decide only [sQ, reduceIte]; refine A4 ?_; simp only [sS, D6 (i := u) (by omega)]; simp +decide only [sQ]; refine C6.mk (k2 - 1) (by omega) ⟨rfl, u + 1, z, _, _, _, _, by omega, hz, ?_, rfl⟩; refine hcz.trans (cg.of_eq ?_); rw [G7, Int.mul_assoc]
  have hu3 : u = 3 := by simp at hlt3; omega
  subst hu3; refine B8 ?_; simp +decide only [sQ, reduceIte]; refine A4 ?_; simp only [sS]; simp +decide only [sQ]; refine A4 ?_; simp only [sS, D6 (i := j) (by omega)]; simp +decide only [sQ]; refine C6.mk (k - 1) (by omega) ⟨j + 1, W (r + w), _, _, _, _, _, _, _, _, by omega, C8f _, ?_, hx03, rfl⟩; refine (C4q _).trans ((hcg.add hcw).trans (cg.of_eq ?_)); have e3 : G7 (upL 9 l) t 3 = G7 (upL 9 l) t (upL 9 l).length := by
   have := A84 (l := upL 9 l) hlack (3 - l.length) (by omega); rw [A89]
   rwa [show l.length + (3 - l.length) = 3 by omega] at this
  have e4 : ((2 : Int) ^ 9) ^ (4 - (t.x + t.y + t.z)).toNat = 2 ^ (9 * d) := by
   rw [← Int.pow_mul]
   congr 2
   omega
  unfold vk; rw [htake, e3, e4, Int.mul_assoc]
 ·have hj : j = p.length := by simp at hlt; omega
  subst hj; refine B8 ?_; simp +decide only [sQ, reduceIte]; refine A0 ?_; simp only [sS]; refine A3 ?_; simp +decide only [sQ]; rw [List.take_length] at hcg; exact ⟨⟨r, rfl, hr, hcg⟩, hx⟩
end Go.Proofs.YtmdeppkfboaepaaGreat
namespace Go.Proofs.YtmdeppkfboaepaaGreat
open Go.Ab Ints
theorem B3o {l : List Int} {B : Nat} (h : ∀ n ∈ l, n.natAbs ≤ B) (t : Tm) : ∀ k, (G7 l t k).natAbs ≤ B ^ A3n t k
 | 0 => Nat.le_refl _
 | k + 1 => by
   rw [G7, A3n, Int.natAbs_mul, Int.natAbs_pow, Nat.pow_add]; refine Nat.mul_le_mul (B3o h t k) (Nat.pow_le_pow_left ?_ _); rw [List.getD_eq_getElem?_getD]; cases hg : l[k]? with
   | none => simp
   | some n => exact h n (List.mem_of_getElem? hg)
theorem D0s {t : Tm} (h : Z6 t = true) {k : Nat} (hk : k ≤ 3) : A3n t k + (4 - (t.x + t.y + t.z)).toNat ≤ 4 := by
 have hb := (A07 t).1 h
 match k, hk with
 | 0, _ => simp [A3n]; omega
 | 1, _ => simp [A3n, pw]; omega
 | 2, _ => simp [A3n, pw]; omega
 | 3, _ => simp [A3n, pw]; omega
theorem C9w {m : Nat} {c : List Int} (hc : c.length ≤ 3) (hb : ∀ x ∈ c, x.natAbs ≤ 8 * 2 ^ m) : ∀ {p : List Tm}, (∀ t ∈ p, Z6 t = true) → (vk m c p).natAbs ≤ p.length * (4096000 * (2 ^ m) ^ 4)
 | [], _ => by simp [vk, ev]
 | t :: p, hp => by
   have ht := hp t (by simp); have hbt := (A07 t).1 ht; have h2 := C9w hc hb (p := p) fun x hx => hp x (by simp [hx])
   have e : vk m c (t :: p) = t.c * (((2 : Int) ^ m) ^ (4 - (t.x + t.y + t.z)).toNat * G7 c t c.length) + vk m c p := rfl; have h3 := B3o hb t c.length; have h4 := D0s ht hc; have hP : 1 ≤ 2 ^ m := Nat.one_le_two_pow; generalize (4 - (t.x + t.y + t.z)).toNat = f at e h4; generalize A3n t c.length = u at h3 h4; have h5 : (((2 : Int) ^ m) ^ f * G7 c t c.length).natAbs ≤ (2 ^ m) ^ f * (8 ^ 4 * (2 ^ m) ^ u) := by
    rw [Int.natAbs_mul, Int.natAbs_pow, Int.natAbs_pow]; refine Nat.mul_le_mul (Nat.le_refl _) (Nat.le_trans h3 ?_); rw [Nat.mul_pow]; exact Nat.mul_le_mul (Nat.pow_le_pow_right (by decide) (by omega)) (Nat.le_refl _)
   have h6 : (2 ^ m) ^ f * (8 ^ 4 * (2 ^ m) ^ u) ≤ 4096 * (2 ^ m) ^ 4 := by
    have : (2 ^ m) ^ (f + u) ≤ (2 ^ m) ^ 4 := Nat.pow_le_pow_right hP (by omega); rw [Nat.pow_add] at this
    calc (2 ^ m) ^ f * (8 ^ 4 * (2 ^ m) ^ u) = 4096 * ((2 ^ m) ^ f * (2 ^ m) ^ u) := by rw [← Nat.mul_assoc, Nat.mul_comm _ (8 ^ 4), Nat.mul_assoc]
     _ ≤ _ := Nat.mul_le_mul (Nat.le_refl _) this
   have h7 : (t.c * (((2 : Int) ^ m) ^ f * G7 c t c.length)).natAbs ≤ 1000 * (4096 * (2 ^ m) ^ 4) := by
    rw [Int.natAbs_mul]; exact Nat.mul_le_mul (by omega) (Nat.le_trans h5 h6)
   rw [e, List.length_cons, Nat.add_mul, Nat.one_mul]; have h8 := Int.natAbs_add_le (t.c * (((2 : Int) ^ m) ^ f * G7 c t c.length)) (vk m c p); generalize (2 ^ m) ^ 4 = Q at *
   generalize p.length * (4096000 * Q) = R at *
   omega
theorem C3p {m : Nat} (hm : m ≤ 9) {c : List Int} (hc : c.length ≤ 3) (hb : ∀ x ∈ c, x.natAbs ≤ 8 * 2 ^ m) {p : List Tm} (hp : ∀ t ∈ p, Z6 t = true) (hn : p.length ≤ 20) : inR (vk m c p) := by
 have h1 := C9w hc hb hp; have h2 : (2 ^ m) ^ 4 ≤ (2 ^ 9) ^ 4 := Nat.pow_le_pow_left (Nat.pow_le_pow_right (by decide) hm) 4; have h3 : p.length * (4096000 * (2 ^ m) ^ 4) ≤ 20 * (4096000 * (2 ^ 9) ^ 4) := Nat.mul_le_mul hn (Nat.mul_le_mul (Nat.le_refl _) h2); have e : 20 * (4096000 * (2 ^ 9) ^ 4) = 5629499534213120000 := by decide
 unfold inR; omega
theorem D1i {k m : Nat} {c : List Int} (hm : ∀ x ∈ c, (E6 x k).2 ≤ m) (hmk : m ≤ k) : c = (upL m (c.map (E6 · k))).map (· * 2 ^ (k - m)) := by
 induction c with
 | nil => rfl
 | cons x c ih =>
   have h1 := hm x (by simp); have h2 := (g9 x k).2; have e : (E6 x k).1 * 2 ^ (m - (E6 x k).2) * 2 ^ (k - m) = x := by
    rw [Int.mul_assoc, ← Int.pow_add, show m - (E6 x k).2 + (k - m) = k - (E6 x k).2 by omega]; exact h2.symm
   simp only [upL, List.map_cons, List.map_map] at ih ⊢; rw [e, ← ih fun y hy => hm y (by simp [hy])]
theorem D13 {k m : Nat} {c : List Int} (hm : k ≤ m) : upL m (c.map (E6 · k)) = c.map (· * 2 ^ (m - k)) := by
 induction c with
 | nil => rfl
 | cons x c ih =>
   obtain ⟨h1, h2⟩ := g9 x k; have e : (E6 x k).1 * 2 ^ (m - (E6 x k).2) = x * 2 ^ (m - k) := by
    conv => rhs; rw [h2]
    rw [Int.mul_assoc, ← Int.pow_add, show k - (E6 x k).2 + (m - k) = m - (E6 x k).2 by omega]
   simp only [upL, List.map_cons, List.map_map] at ih ⊢; rw [ih, e]
theorem C28 (d : Nat) (n : Int) : J5 (((2 : Int) ^ d) ^ 4 * n) = J5 n := X2 (C2x d 4) n
theorem C7f (a : Int) : d5 a 0 = J5 a := by
 unfold d5 J5; rcases Int.lt_trichotomy a 0 with h | h | h
 ·rw [if_pos (by omega), if_neg (by omega), if_pos h]
 ·subst h; simp
 ·rw [if_neg (by omega), if_pos (by omega), if_pos h]
structure PtK (p : List Tm) (c : List Int) (k : Nat) : Prop where
 k4 : k ≤ 4
 n : 1 ≤ c.length ∧ c.length ≤ 3
 b : ∀ x ∈ c, x.natAbs ≤ 8 * 2 ^ k
 g : I1 p = true
 f : I9 c.length p = true
theorem PtK.ok {p : List Tm} {c : List Int} {k : Nat} (h : PtK p c k) : (∀ t ∈ p, Z6 t = true ∧ B97 c.length t) ∧ p.length ≤ 20 := by
 have hf := h.f; rw [← A65, C0f] at hf; have h1 := h.g; simp only [I1, Bool.and_eq_true, decide_eq_true_eq] at h1; exact ⟨fun t ht => ⟨A2d p none h1.1 t ht, C9d (A2d p none h1.1 t ht) (hf t ht)⟩, by omega⟩
theorem PtK.gd {p : List Tm} {c : List Int} {k : Nat} (h : PtK p c k) : ∀ x ∈ c.map (E6 · k), GD x := by
 intro x hx; obtain ⟨y, hy, rfl⟩ := List.mem_map.1 hx; exact GD.of_norm (by have := h.k4; omega) (h.b y hy)
theorem PtK.spec {p : List Tm} {c : List Int} {k : Nat} (h : PtK p c k) {r : Int} (hr : inR r) (hc : cg r (vk (mxK (c.map (E6 · k))) (upL (mxK (c.map (E6 · k))) (c.map (E6 · k))) p)) : J5 r = J5 (vk k c p) := by
 obtain ⟨h1, h2⟩ := h.ok; have hmk : mxK (c.map (E6 · k)) ≤ k := C4m fun x hx => by
  obtain ⟨y, hy, rfl⟩ := List.mem_map.1 hx; exact (g9 y k).1
 have hge : ∀ x ∈ c, (E6 x k).2 ≤ mxK (c.map (E6 · k)) := fun x hx => C4r _ (List.mem_map_of_mem hx)
 have h4 := h.k4; have hn := h.n; generalize mxK (c.map (E6 · k)) = m at hc hmk hge; have e := D1i hge hmk; have hl : (upL m (c.map (E6 · k))).length = c.length := by rw [A89, List.length_map]
 have hs : ∀ x ∈ upL m (c.map (E6 · k)), x.natAbs ≤ 8 * 2 ^ m := by
  intro x hx; have hy : x * 2 ^ (k - m) ∈ c := by
   rw [e]; exact List.mem_map_of_mem hx
  have := h.b _ hy; rw [Int.natAbs_mul, Int.natAbs_pow, show 2 ^ k = 2 ^ m * 2 ^ (k - m) by rw [← Nat.pow_add]; congr 1; omega, ← Nat.mul_assoc] at this; exact Nat.le_of_mul_le_mul_right this (Nat.pow_pos (by decide))
 have hv := C3p (by omega) (by omega) hs (p := p) (fun t ht => (h1 t ht).1) h2; have he := hc.eq hr hv; have hm := C6t m (k - m) (upL m (c.map (E6 · k))) (p := p) (fun t ht => ⟨(h1 t ht).1, by rw [hl]; exact (h1 t ht).2⟩) (by omega); rw [← e, show m + (k - m) = k by omega] at hm; rw [he, hm, C28]
theorem PtK.impl {p : List Tm} {c : List Int} {k : Nat} (h : PtK p c k) {r : Int} (hr : inR r) (hc : cg r (vk 9 (upL 9 (c.map (E6 · k))) p)) : J5 r = J5 (vk k c p) := by
 obtain ⟨h1, h2⟩ := h.ok; have h4 := h.k4; have hn := h.n; have e : upL 9 (c.map (E6 · k)) = c.map (· * 2 ^ (9 - k)) := D13 (by omega); rw [e] at hc; have hs : ∀ x ∈ c.map (· * 2 ^ (9 - k)), x.natAbs ≤ 8 * 2 ^ 9 := by
  intro x hx; obtain ⟨y, hy, rfl⟩ := List.mem_map.1 hx; have := h.b _ hy; rw [Int.natAbs_mul, Int.natAbs_pow, show 2 ^ 9 = 2 ^ k * 2 ^ (9 - k) by rw [← Nat.pow_add]; congr 1; omega, ← Nat.mul_assoc]; exact Nat.mul_le_mul this (Nat.le_refl _)
 have hv := C3p (by omega) (by simp; omega) hs (p := p) (fun t ht => (h1 t ht).1) h2; have he := hc.eq hr hv; have hm := C6t k (9 - k) c (p := p) h1 (by omega); rw [show k + (9 - k) = 9 by omega] at hm; rw [he, hm, C28]
theorem C7r {n : Nat} {p : List Tm} (h : I9 n p = true) {k : Nat} (h1 : n ≤ k) (h2 : k < 3) (h0 : 1 ≤ n) : decide (I3 k (-1) p > 0) = false := by
 have := B5w h0 h k h1 h2; simp; omega
theorem C78 (lim : Nat) (s : Value) (p : List Tm) (n : Nat) (H : A1) (hl : lim ≤ H.next) (hs : SlT H s p) (hn : p.length ≤ 20) (hn1 : 1 ≤ n) (hn3 : n ≤ 3) (hg : I1 p = true) (hf : I9 n p = true) :
 A5 Tryz.prog lim B82 [s, .int .i64 n] H fun v H' => v = .bool true ∧ Ext H H' := by
 refine B6n.go rfl ?_; unfold A7z; refine A0 ?_; simp only [sS]; refine C7 (A0 ?_); simp only [sS]; refine A7 ?_; refine B9 (fun k e' H' => ∃ i : Nat, i + k = 3 ∧ n ≤ i ∧ Ext H H' ∧ e' = [s, .int .i64 n, .bool false, .int .i64 i]) (3 - n) ⟨n, by omega, Nat.le_refl _, Ext.refl _, rfl⟩ ?_; rintro k e' H' ⟨i, hik, hni, hx, rfl⟩; have hnx := hx.next; refine A9 ?_; simp only [sS]; refine C4.split (fun hlt => ?_) (fun hlt => ?_)
 ·have hlt' : i < 3 := by have := of_decide_eq_true hlt; omega
  refine A2 ?_; simp +decide only [sQ]; refine A7 ?_; refine S8 false (Ext H) ?_ (fun H2 hx2 hg => absurd hg (by decide)) (fun H2 hx2 _ => ?_)
  ·simp only [sS]; refine (j0 lim s p i H' (by omega) (hs.ext hx) (by omega)).mono ?_; rintro _ H2 ⟨rfl, hx2⟩; simp only [sS, C7r hf hni hlt' hn1]; exact ⟨trivial, trivial, hx.trans hx2⟩
  refine A2 ?_; simp +decide only [sQ]; refine A4 ?_; simp only [sS, D6 (i := i) (by omega)]; simp +decide only [sQ]; exact C6.mk (k - 1) (by omega) ⟨i + 1, by omega, by omega, hx2, rfl⟩
 refine B8 ?_; simp +decide only [sQ, reduceIte]; refine A0 ?_; simp only [sS]; refine (A6x lim s p H' (by omega) (hs.ext hx) (by omega)).mono ?_; rintro _ H2 ⟨rfl, hx2⟩; simp only [sS]; refine A3 ?_; simp +decide only [sQ]; exact ⟨by rw [hg], hx.trans hx2⟩
theorem C44 (lim : Nat) (s pt : Value) (p : List Tm) (c : List Int) (k : Nat) (H : A1) (hl : lim ≤ H.next) (hs : SlT H s p) (hp : SlQ H pt (c.map (E6 · k))) (h : PtK p c k) :
 A5 Tryz.prog lim B57 [s, pt] H fun v H' => v = .bool true ∧ Ext H H' := by
 obtain ⟨_, h20⟩ := h.ok; have hn := h.n; have hlen := hp.lenV; rw [List.length_map] at hlen; refine B3z.go rfl ?_; unfold A5q; refine A0 ?_; simp only [sS]; refine A0 ?_; simp only [sS]; refine (C3t lim pt _ H hl hp (by rw [List.length_map]; exact hn) h.gd).mono ?_; rintro _ H1 ⟨rfl, hx1⟩; have hn1 := hx1.next; simp only [sS, hlen]; refine (C78 lim s p c.length H1 (by omega) (hs.ext hx1) h20 hn.1 hn.2 h.g h.f).mono ?_; rintro _ H2 ⟨rfl, hx2⟩; simp only [sS]; refine A3 ?_; simp +decide only [sQ]; exact ⟨trivial, hx1.trans hx2⟩
theorem C5d (lim : Nat) (s pt : Value) (p : List Tm) (c : List Int) (k : Nat) (H : A1) (hl : lim ≤ H.next) (hs : SlT H s p) (hp : SlQ H pt (c.map (E6 · k))) (h : PtK p c k) :
 A5 Tryz.prog lim A81 [s, pt] H fun v H' => v = .tuple #[.int .i64 (J5 (vk k c p)), .bool true] ∧ Ext H H' := by
 obtain ⟨hok, h20⟩ := h.ok; have hn := h.n; refine A7e.go rfl ?_; unfold A1h; refine A0 ?_; simp only [sS]; refine J1 false (Ext H) ?_ (fun H2 hx2 hg => absurd hg (by decide)) (fun H2 hx2 _ => ?_)
 ·simp only [sS]; refine (C44 lim s pt p c k H hl hs hp h).mono ?_; rintro _ H1 ⟨rfl, hx1⟩; simp only [sS]; exact ⟨trivial, trivial, hx1⟩
 have hn2 := hx2.next; refine A2 ?_; simp +decide only [sQ]; refine A0 ?_; simp only [sS]; refine (C75 lim s pt p _ H2 (by omega) (hs.ext hx2) (hp.ext hx2) (by omega) (by rw [List.length_map]; exact hn.2) (fun t ht => (hok t ht).1) h.gd).mono ?_; rintro _ H3 ⟨⟨r, r2, rfl, hr, hcg⟩, hx3⟩; simp only [sS]; refine A0 ?_; simp only [sS]; refine (O9 _ _ _).eq ?_; simp only [sS]; refine A3 ?_; simp +decide only [sQ]; rw [h.spec hr hcg]; exact ⟨rfl, hx2.trans hx3⟩
theorem C1y (lim : Nat) (s pt : Value) (p : List Tm) (c : List Int) (k : Nat) (H : A1) (hl : lim ≤ H.next) (hs : SlT H s p) (hp : SlQ H pt (c.map (E6 · k))) (h : PtK p c k) :
 A5 Tryz.prog lim B2x [s, pt] H fun v H' => v = .bool true ∧ Ext H H' := by
 obtain ⟨_, h20⟩ := h.ok; have hn := h.n; have hlen := hp.lenV; rw [List.length_map] at hlen; refine A9z.go rfl ?_; unfold A3r; refine A0 ?_; simp only [sS]; refine A0 ?_; simp only [sS]; refine (B1x lim s p H hl hs (by omega)).mono ?_; rintro _ H1 ⟨rfl, hx1⟩; rw [h.g]; have hn1 := hx1.next; simp only [sS]; refine (B7i lim pt _ H1 (hp.ext hx1) (by rw [List.length_map]; exact hn) h.gd).mono ?_; rintro _ H2 ⟨rfl, hx2⟩; have hn2 := hx2.next; simp only [sS, hlen]; refine (B6l lim s p c.length H2 (by omega) (hs.ext (hx1.trans hx2)) (by omega)).mono ?_; rintro _ H3 ⟨rfl, hx3⟩; rw [A65, h.f]; simp only [sS]; refine A3 ?_; simp +decide only [sQ]; exact ⟨trivial, hx1.trans (hx2.trans hx3)⟩
theorem C5i (lim : Nat) (s pt : Value) (p : List Tm) (c : List Int) (k : Nat) (H : A1) (hl : lim ≤ H.next) (hs : SlT H s p) (hp : SlQ H pt (c.map (E6 · k))) (h : PtK p c k) :
 A5 Tryz.prog lim A8z [s, pt] H fun v H' => v = .tuple #[.int .i64 (J5 (vk k c p)), .bool true] ∧ Ext H H' := by
 obtain ⟨hok, h20⟩ := h.ok; have hn := h.n; refine A7g.go rfl ?_; unfold A0v; refine A0 ?_; simp only [sS]; refine J1 false (Ext H) ?_ (fun H2 hx2 hg => absurd hg (by decide)) (fun H2 hx2 _ => ?_)
 ·simp only [sS]; refine (C1y lim s pt p c k H hl hs hp h).mono ?_; rintro _ H1 ⟨rfl, hx1⟩; simp only [sS]; exact ⟨trivial, trivial, hx1⟩
 have hn2 := hx2.next; refine A2 ?_; simp +decide only [sQ]; refine A0 ?_; simp only [sS]; refine (C1j lim s pt p _ H2 (by omega) (hs.ext hx2) (hp.ext hx2) (by omega) (by rw [List.length_map]; exact hn.2) (fun t ht => by rw [List.length_map]; exact hok t ht) h.gd).mono ?_; rintro _ H3 ⟨⟨r, rfl, hr, hcg⟩, hx3⟩; simp only [sS]; refine (A32 _ _ _ _).eq ?_; rw [C7f, h.impl hr hcg]; simp only [sS]; refine A3 ?_; simp +decide only [sQ]; exact ⟨trivial, hx2.trans hx3⟩
end Go.Proofs.YtmdeppkfboaepaaGreat
