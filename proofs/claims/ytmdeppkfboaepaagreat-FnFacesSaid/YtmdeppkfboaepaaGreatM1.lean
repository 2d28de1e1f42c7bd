/- Parts of the proof of a statement of this seat: contracts of functions that the law calls, or the law's own row; no condition. -/
import Derived.Test.YtmdeppkfboaepaaGreatAbVec
import Derived.Test.YtmdeppkfboaepaaGreatC
import Derived.Test.YtmdeppkfboaepaaGreatAbBase
import Derived.Test.YtmdeppkfboaepaaGreatAbOps
import Derived.Test.YtmdeppkfboaepaaGreatAbTr
import Derived.Test.YtmdeppkfboaepaaGreatAbEff
import Derived.Test.YtmdeppkfboaepaaGreatAbCode
import Derived.Test.YtmdeppkfboaepaaGreatAbDraw
import Derived.Test.YtmdeppkfboaepaaGreatAbFun
import Derived.Test.YtmdeppkfboaepaaGreatAbUse
import Derived.Test.YtmdeppkfboaepaaGreatAbStep
import Derived.Test.YtmdeppkfboaepaaGreatAbMore
import Derived.Test.YtmdeppkfboaepaaGreatAbArg
import Derived.Test.YtmdeppkfboaepaaGreatAbSet
set_option maxHeartbeats 8000000
set_option linter.unusedSimpArgs false
set_option linter.unusedVariables false
namespace Go.Proofs.YtmdeppkfboaepaaGreat
def gA : Int := 6364136223846793005
def gC : Int := 1442695040888963407
def it : Nat → Int → Int
 | 0, x => x
 | n + 1, x => it n (x * gA + gC)
theorem C4x : ∀ (n m : Nat) (x : Int), it (n + m) x = it m (it n x)
 | 0, m, x => by rw [Nat.zero_add]; rfl
 | n + 1, m, x => by
   rw [show n + 1 + m = (n + m) + 1 by omega]; show it (n + m) (x * gA + gC) = it m (it n (x * gA + gC)); exact C4x n m _
theorem D0d : ∀ k : Nat, ∃ u v : Int, ∀ x, it (2 ^ k) x = (1 + 4 * 2 ^ k * u) * x + 2 ^ k * (2 * v + 1)
 | 0 => ⟨1591034055961698251, 721347520444481703, fun x => by
  show x * gA + gC = _; unfold gA gC; simp only [Int.pow_zero]; omega⟩
 | k + 1 => by
   obtain ⟨u, v, h⟩ := D0d k; refine ⟨u + 2 * 2 ^ k * (u * u), v + (2 * v + 1) * (2 ^ k * u), fun x => ?_⟩; rw [Nat.pow_succ, Nat.mul_two, C4x, h, h, Int.pow_succ]; generalize (2 : Int) ^ k = p
   grind
theorem C6z : ∀ (k : Nat) (x y : Int), ∃ n : Nat, n < 2 ^ k ∧ (2 : Int) ^ k ∣ it n x - y
 | 0, x, y => ⟨0, by decide, by simp⟩
 | k + 1, x, y => by
   obtain ⟨n, hn, d, hd⟩ := C6z k x y; obtain ⟨u, v, h⟩ := D0d k; have h2 := h (it n x); have hp : (2 : Int) ^ (k + 1) = 2 ^ k * 2 := Int.pow_succ ..; have hpar : (∃ e, d = 2 * e) ∨ (∃ e, d = 2 * e + 1) := by
    rcases Int.emod_two_eq d with h | h
    ·exact .inl ⟨d / 2, by omega⟩
    ·exact .inr ⟨d / 2, by omega⟩
   rcases hpar with ⟨e, rfl⟩ | ⟨e, rfl⟩
   ·refine ⟨n, Nat.lt_of_lt_of_le hn (Nat.pow_le_pow_right (by decide) (by omega)), e, ?_⟩; rw [hp, hd, Int.mul_assoc]
   ·refine ⟨n + 2 ^ k, by rw [Nat.pow_succ]; omega, e + v + 1 + 2 * u * it n x, ?_⟩; rw [C4x, h2, hp]; generalize (2 : Int) ^ k = p at *
    generalize it n x = z at *
    grind
def gs (z : Int) : Int := (z * gA + gC) % 18446744073709551616
def gsN : Nat → Int → Int
 | 0, z => z
 | n + 1, z => gsN n (gs z)
theorem D2d : ∀ (n : Nat) (z w : Int), (18446744073709551616 : Int) ∣ z - w → (18446744073709551616 : Int) ∣ gsN n z - it n w
 | 0, z, w, h => h
 | n + 1, z, w, h => by
   refine D2d n _ _ ?_; unfold gs; have h1 : (18446744073709551616 : Int) ∣ (z * gA + gC) - (w * gA + gC) := by
    rw [show z * gA + gC - (w * gA + gC) = (z - w) * gA by rw [Int.sub_mul]; omega]; exact Int.dvd_trans h (Int.dvd_mul_right _ _)
   generalize z * gA + gC = a at *
   generalize w * gA + gC = b at *
   omega
def B41 (z : Int) : Int := z / 1099511627776 % 256
theorem D1o (z t : Int) (ht : 0 ≤ t ∧ t < 256) : ∃ n : Nat, n < 2 ^ 48 ∧ B41 (gsN n z) = t := by
 obtain ⟨n, hn, h⟩ := C6z 48 z (t * 1099511627776); refine ⟨n, hn, ?_⟩; have h2 := D2d n z z ⟨0, by omega⟩; have e : (2 : Int) ^ 48 = 281474976710656 := by decide
 rw [e] at h; unfold B41; generalize it n z = a at *
 generalize gsN n z = b at *
 omega
end Go.Proofs.YtmdeppkfboaepaaGreat
namespace Go.Proofs.YtmdeppkfboaepaaGreat
def hv (n b : Int) : List Int → Int
 | [] => 0
 | a :: p => a * b ^ p.length + n * hv n b p
def E6 : Int → Nat → Int × Nat
 | n, 0 => (n, 0)
 | n, k + 1 => if n % 2 = 0 then E6 (n / 2) k else (n, k + 1)
theorem g9 : ∀ (n : Int) (k : Nat), (E6 n k).2 ≤ k ∧ n = (E6 n k).1 * 2 ^ (k - (E6 n k).2)
 | n, 0 => by simp [E6]
 | n, k + 1 => by
   rw [E6]; by_cases h : n % 2 = 0
   ·rw [if_pos h]; obtain ⟨h1, h2⟩ := g9 (n / 2) k; refine ⟨by omega, ?_⟩; rw [show k + 1 - (E6 (n / 2) k).2 = (k - (E6 (n / 2) k).2) + 1 by omega, Int.pow_succ, ← Int.mul_assoc, ← h2]; omega
   ·rw [if_neg h]; simp
theorem C0b : ∀ (n : Int) (k : Nat), (E6 n k).2 = 0 ∨ (E6 n k).1 % 2 = 1
 | n, 0 => by simp [E6]
 | n, k + 1 => by
   rw [E6]; by_cases h : n % 2 = 0
   ·rw [if_pos h]; exact C0b _ _
   ·rw [if_neg h]; right; simp only; omega
theorem C7v (n : Int) (k : Nat) : E6 (n * 2) (k + 1) = E6 n k := by
 rw [E6, if_pos (by omega), show n * 2 / 2 = n by omega]
theorem B9s (n : Int) (k : Nat) : ∀ j : Nat, E6 (n * 2 ^ j) (k + j) = E6 n k
 | 0 => by simp
 | j + 1 => by rw [Int.pow_succ, ← Int.mul_assoc, ← Nat.add_assoc, C7v, B9s n k j]
theorem C48 {n : Int} {k : Nat} (h : k = 0 ∨ n % 2 = 1) : E6 n k = (n, k) := by
 cases k with
 | zero => rfl
 | succ k => rw [E6, if_neg (by omega)]
theorem C8z {n m : Int} {k d : Nat} (h : k ≤ d) (e : m = n * 2 ^ (d - k)) : E6 m d = E6 n k := by
 rw [e]; have := B9s n k (d - k)
 rwa [show k + (d - k) = d by omega] at this
def D2p (p q : List Int) : Nat → Nat → Int
 | 0, _ => 0
 | n + 1, m => D2p p q n m + (if n ≤ m then p.getD n 0 * q.getD (m - n) 0 else 0)
def conv (p q : List Int) (m : Nat) : Int := D2p p q p.length m
end Go.Proofs.YtmdeppkfboaepaaGreat
namespace Go.Proofs.YtmdeppkfboaepaaGreat
open Go.Ab
abbrev vi (n : Int) : Value := .int .i64 n
structure Tm where
 c : Int
 x : Int
 y : Int
 z : Int
 deriving DecidableEq
def tc (t : Tm) : List Value := [vi t.c, vi t.x, vi t.y, vi t.z]
def tv (t : Tm) : Value := .agg #[vi t.c, vi t.x, vi t.y, vi t.z]
theorem D0q (t : Tm) : C2 (tv t) = some (tc t) := rfl
def tcs (l : List Tm) : List Value := l.flatMap tc
theorem B7f (t : Tm) (l : List Tm) : tcs (t :: l) = tc t ++ tcs l := rfl
theorem A0u (l m : List Tm) : tcs (l ++ m) = tcs l ++ tcs m := by simp [tcs]
theorem A3v (l : List Tm) : (tcs l).length = l.length * 4 := by
 induction l with
 | nil => rfl
 | cons t l ih => rw [B7f, List.length_append, ih, List.length_cons]; simp [tc]; omega
theorem D0r : ∀ {l : List Tm} {i : Nat} {t : Tm}, l[i]? = some t → ((tcs l).drop (i * 4)).take 4 = tc t
 | [], i, t, h => by simp at h
 | a :: l, 0, t, h => by
   simp only [List.getElem?_cons_zero, Option.some.injEq] at h; subst h; rw [B7f]; rfl
 | a :: l, i + 1, t, h => by
   have e : (tcs (a :: l)).drop ((i + 1) * 4) = (tcs l).drop (i * 4) := by
    rw [B7f, List.drop_append, List.drop_of_length_le (by simp [tc]; omega), List.nil_append]
    congr 1
    simp [tc]; omega
   rw [e]; exact D0r (by simpa using h)
def Tm.upd (t : Tm) : Nat → Int → Tm
 | 0, v => { t with c := v }
 | 1, v => { t with x := v }
 | 2, v => { t with y := v }
 | _, v => { t with z := v }
abbrev SlT (H : A1) (v : Value) (l : List Tm) : Prop := Sl H v l.length 4 (tcs l)
abbrev G8 (H : A1) (b : Nat) (v : Value) (l : List Tm) : Prop := Vec H b v l.length 4 (tcs l)
structure At (H : A1) (b o : Nat) (t : Tm) : Prop where
 lt : b < H.next
 all : D5 H 4 (.pointer (some ⟨b, o, none⟩)) = some (tv t)
 c : H.cell b o = some (vi t.c)
 x : H.cell b (o + 1) = some (vi t.x)
 y : H.cell b (o + 2) = some (vi t.y)
 z : H.cell b (o + 3) = some (vi t.z)
theorem At.of_load {H : A1} {b o : Nat} {t : Tm} (hb : b < H.next) (h : P6 H b o 4 = some (tc t)) : At H b o t := by
 have hc : ∀ j, j < 4 → H.cell b (o + j) = (tc t)[j]? := by
  intro j hj; unfold P6 at h; unfold A1.cell; cases hbk : H.blk b with
  | none => rw [hbk] at h; cases h
  | some cs =>
    rw [hbk] at h; simp only [Option.bind_some] at h ⊢; split at h
    ·simp only [Option.some.injEq] at h; have h4 := congrArg (fun z => z[j]?) h; simp only [List.getElem?_take, List.getElem?_drop, if_pos hj] at h4; exact h4
    ·cases h
 exact ⟨hb, by simp only [D5, h, Option.map_some]; rfl, hc 0 (by omega), hc 1 (by omega), hc 2 (by omega), hc 3 (by omega)⟩
theorem SlT.at {H : A1} {s : Value} {l : List Tm} (h : SlT H s l) {i : Nat} (hi : i < l.length) : ∃ b o, F1 4 s (.int .i64 i) = some (.pointer (some ⟨b, o, none⟩)) ∧ At H b o l[i] := by
 obtain ⟨b, o, h1, h2, h3⟩ := Sl.iad h .i64 (i := (i : Int)) (by omega) (by omega); have e : (i : Int).toNat = i := by omega
 rw [e, D0r (List.getElem?_eq_getElem hi)] at h3; exact ⟨b, o, h1, At.of_load h2 h3⟩
theorem C0l {b : Nat} {H : A1} {x y z u : Value} (h : H.blk b = some [x, y, z, u]) : D5 H 4 (.pointer (some ⟨b, 0, none⟩)) = some (.agg #[x, y, z, u]) := F9 h
theorem C1n {lim b : Nat} {H : A1} {p q r s x y z u : Value} (hl : lim ≤ b) (h : H.blk b = some [p, q, r, s]) : C8 lim H 4 (.pointer (some ⟨b, 0, none⟩)) (.agg #[x, y, z, u]) = some (undef, H.put b [x, y, z, u]) :=
 B2b (xs := [x, y, z, u]) hl h rfl
end Go.Proofs.YtmdeppkfboaepaaGreat
namespace Go.Proofs.YtmdeppkfboaepaaGreat
open Go.Ab
theorem SlT.ext {H H' : A1} {v : Value} {l : List Tm} (h : SlT H v l) (hx : Ext H H') : SlT H' v l := Sl.keep h (T8.of_ext hx (Nat.le_refl _)) (Nat.le_refl _)
theorem G8.ext {H H' : A1} {b : Nat} {v : Value} {l : List Tm} (h : G8 H b v l) (hx : Ext H H') : G8 H' b v l := Vec.ext h hx
theorem G8.chg {H H' : A1} {b b' : Nat} {v : Value} {l : List Tm} (h : G8 H b v l) (hx : Chg b' H H') (hne : b ≠ b') : G8 H' b v l := Vec.chg h hx hne
def mkT (k : Int) (n : Nat) : List Tm := (List.range n).map fun (i : Nat) => ⟨k + 4 * i, k + 4 * i + 1, k + 4 * i + 2, k + 4 * i + 3⟩
end Go.Proofs.YtmdeppkfboaepaaGreat
namespace Go.Proofs.YtmdeppkfboaepaaGreat
open Go.Ab
def l3 (H : A1) (v : Value) (ss : List (List Tm)) : Prop := ∃ vs : List Value, Sl H v ss.length 1 vs ∧ ∀ (i : Nat) (p : List Tm), ss[i]? = some p → ∃ s, vs[i]? = some s ∧ SlT H s p
theorem l3.ext {H H' : A1} {v : Value} {ss : List (List Tm)} (h : l3 H v ss) (hx : Ext H H') : l3 H' v ss := by
 obtain ⟨vs, h1, h2⟩ := h; refine ⟨vs, h1.keep (T8.of_ext hx (Nat.le_refl _)) (Nat.le_refl _), fun i p hp => ?_⟩; obtain ⟨s, g1, g2⟩ := h2 i p hp; exact ⟨s, g1, g2.ext hx⟩
theorem l3.lenV {H : A1} {v : Value} {ss : List (List Tm)} (h : l3 H v ss) : O6 v = some (.int .i64 ss.length) := by
 obtain ⟨vs, h1, _⟩ := h; exact h1.lenV
theorem l3.at {H : A1} {v : Value} {ss : List (List Tm)} (h : l3 H v ss) {i : Nat} (hi : i < ss.length) : ∃ b o s, F1 1 v (.int .i64 i) = some (.pointer (some ⟨b, o, none⟩)) ∧ H.cell b o = some s ∧ SlT H s ss[i] := by
 obtain ⟨vs, h1, h2⟩ := h; obtain ⟨b, o, g1, g2, g3⟩ := h1.cell .i64 (i := (i : Int)) (by omega) (by omega); obtain ⟨s, k1, k2⟩ := h2 i _ (List.getElem?_eq_getElem hi); rw [show (i : Int).toNat = i by omega, k1] at g3; exact ⟨b, o, s, g1, g3, k2⟩
end Go.Proofs.YtmdeppkfboaepaaGreat
namespace Go.Proofs.YtmdeppkfboaepaaGreat
open Go.Ab
theorem D0y (H : A1) (t : Tm) : E0 H 1 [.int .i64 0, .int .i64 0, .int .i64 0, .int .i64 0] [(0, 4, tv t)] = some (.slice (some ⟨H.next, 0, some 0⟩) 1 1, H.alloc (tc t)) := by
 simp [E0, C9, D0q, tc]
theorem D22 (H : A1) (t : Tm) : SlT (H.alloc (tc t)) (.slice (some ⟨H.next, 0, some 0⟩) 1 1) [t] := by
 have := Vec.lit (H := H) (n := 1) (sz := 4) (cells := tc t) rfl; have h2 := Vec.sl this; have e : tcs [t] = tc t := by simp [tcs]
 unfold SlT; rw [e]; exact h2
end Go.Proofs.YtmdeppkfboaepaaGreat
namespace Go.Ab
theorem S8 {P : Program} {lim : Nat} {Q : J6} {e : List Value} {H : A1} {ops : List D9} (g : Bool) (I : A1 → Prop) {o : Opd} {x y : C1} (h : D8 P lim ops (fun e' t' H' => o.ev e' t' = .bool g ∧ e' = e ∧ I H') e [] H)
 (h1 : ∀ H', I H' → g = true → awp P lim x Q e H') (h2 : ∀ H', I H' → g = false → awp P lim y Q e H') : awp P lim (.test ops o x y) Q e H := by
 refine E1 (D8.mono ?_ h); rintro e' t' H' ⟨h3, rfl, h4⟩; rw [h3]; exact C4.split (h1 H' h4) (h2 H' h4)
end Go.Ab
namespace Go.Proofs.YtmdeppkfboaepaaGreat
open Go.Ab
theorem L6 (lim : Nat) (a b c : Int) (H : A1) : A5 Tryz.prog lim B3t [.int .i64 a, .int .i64 b, .int .i64 c] H fun v H' => v = .bool (decide (b ≤ a) && decide (a ≤ c)) ∧ H' = H := by
 refine B02.go rfl ?_; unfold A55; refine A0 ?_; simp only [sS]; refine A0 ?_; have e1 : (a ≥ b) = (b ≤ a) := rfl; cases h1 : decide (b ≤ a)
 ·simp only [sS, e1, h1]; refine A3 ?_; simp +decide only [sQ]; simp
 ·simp only [sS, e1, h1]; refine A3 ?_; simp +decide only [sQ]; simp
structure J8 (H H1 : A1) (p : Nat) (t : Tm) : Prop where
 ext : Ext H H1
 ge : H.next ≤ p
 lt : p < H1.next
 blk : H1.blk p = some (tc t)
theorem J8.mk' (H : A1) (t : Tm) : J8 H (H.alloc (tc t)) H.next t := ⟨Ext.alloc _ _, Nat.le_refl _, Nat.lt_succ_self _, A6 _ _⟩
theorem J8.mono {H H1 H2 : A1} {p : Nat} {t : Tm} (h : J8 H H1 p t) (hx : Ext H1 H2) : J8 H H2 p t := ⟨h.ext.trans hx, h.ge, Nat.lt_of_lt_of_le h.lt hx.next, by rw [hx.blk _ h.lt]; exact h.blk⟩
theorem J8.c0 {H H1 : A1} {p : Nat} {t : Tm} (h : J8 H H1 p t) : H1.cell p 0 = some (vi t.c) := B7 h.blk 0
theorem J8.c1 {H H1 : A1} {p : Nat} {t : Tm} (h : J8 H H1 p t) : H1.cell p 1 = some (vi t.x) := B7 h.blk 1
theorem J8.c2 {H H1 : A1} {p : Nat} {t : Tm} (h : J8 H H1 p t) : H1.cell p 2 = some (vi t.y) := B7 h.blk 2
theorem J8.c3 {H H1 : A1} {p : Nat} {t : Tm} (h : J8 H H1 p t) : H1.cell p 3 = some (vi t.z) := B7 h.blk 3
theorem J8.all {H H1 : A1} {p : Nat} {t : Tm} (h : J8 H H1 p t) : D5 H1 4 (.pointer (some ⟨p, 0, none⟩)) = some (tv t) := C0l h.blk
theorem B8r (H : A1) (t : Tm) : M5 H (tv t) = some (.pointer (some ⟨H.next, 0, none⟩), H.alloc (tc t)) := rfl
theorem K8 {lim : Nat} {H : A1} {p q r s : Value} {t : Tm} (hl : lim ≤ H.next) : C8 lim (H.alloc [p, q, r, s]) 4 (.pointer (some ⟨H.next, 0, none⟩)) (tv t) = some (undef, H.alloc (tc t)) := by
 unfold tv; rw [C1n hl (A6 _ _), d8]; rfl
def Z6 (t : Tm) : Bool := ((((decide (-1000 ≤ t.c) && decide (t.c ≤ 1000)) && (decide (0 ≤ t.x) && decide (t.x ≤ 4))) && (decide (0 ≤ t.y) && decide (t.y ≤ 4))) && (decide (0 ≤ t.z) && decide (t.z ≤ 4))) && decide (t.x + t.y + t.z ≤ 4)
theorem B7a {t : Tm} (h : Z6 t = true) : -1000 ≤ t.c ∧ t.c ≤ 1000 ∧ 0 ≤ t.x ∧ t.x ≤ 4 ∧ 0 ≤ t.y ∧ t.y ≤ 4 ∧ 0 ≤ t.z ∧ t.z ≤ 4 := by
 simp only [Z6, Bool.and_eq_true, decide_eq_true_eq] at h; omega
theorem C74 (lim : Nat) (t : Tm) (H : A1) : A5 Tryz.prog lim B9f [tv t] H fun v H' => v = .bool (Z6 t) ∧ Ext H H' := by
 refine B5q.go rfl ?_; unfold A72; refine A0 ?_; simp only [sS, B8r]; have hB := J8.mk' H t; generalize H.alloc (tc t) = H1 at hB ⊢; generalize H.next = p at hB ⊢; have hx := hB.ext; refine A0 ?_; simp only [sS, Nat.zero_add, hB.c0]; refine (L6 _ _ _ _ _).eq ?_; unfold Z6; cases h1 : decide (-1000 ≤ t.c) && decide (t.c ≤ 1000)
 ·simp only [sS]; refine A3 ?_; simp +decide only [sQ]; exact ⟨by simp, hx⟩
 simp only [sS, Nat.zero_add, hB.c1]; refine (L6 _ _ _ _ _).eq ?_; cases h2 : decide (0 ≤ t.x) && decide (t.x ≤ 4)
 ·simp only [sS]; refine A3 ?_; simp +decide only [sQ]; exact ⟨by simp, hx⟩
 simp only [sS, Nat.zero_add, hB.c2]; refine (L6 _ _ _ _ _).eq ?_; cases h3 : decide (0 ≤ t.y) && decide (t.y ≤ 4)
 ·simp only [sS]; refine A3 ?_; simp +decide only [sQ]; exact ⟨by simp, hx⟩
 simp only [sS, Nat.zero_add, hB.c3]; refine (L6 _ _ _ _ _).eq ?_; cases h4 : decide (0 ≤ t.z) && decide (t.z ≤ 4)
 ·simp only [sS]; refine A3 ?_; simp +decide only [sQ]; exact ⟨by simp, hx⟩
 simp only [Bool.and_eq_true, decide_eq_true_eq] at h2 h3 h4; have w1 : IntKind.i64.wrap (t.x + t.y) = t.x + t.y := by rw [IntKind.wrap_i64]; omega
 have w2 : IntKind.i64.wrap (t.x + t.y + t.z) = t.x + t.y + t.z := by rw [IntKind.wrap_i64]; omega
 simp only [sS, Nat.zero_add, hB.c1, hB.c2, hB.c3, w1, w2]; refine A3 ?_; simp +decide only [sQ]; exact ⟨by simp, hx⟩
def J5 (n : Int) : Int := if n > 0 then 1 else if n < 0 then -1 else 0
theorem O9 (lim : Nat) (n : Int) (H : A1) : A5 Tryz.prog lim B85 [.int .i64 n] H fun v H' => v = .int .i64 (J5 n) ∧ H' = H := by
 refine B74.go rfl ?_; unfold A8e J5; refine A0 ?_; simp only [sS]; refine A7 ?_; refine E1 ?_; simp only [sS]; refine C4.split (fun h => ?_) (fun h => ?_)
 ·refine A0 ?_; simp only [sS]; refine A3 ?_; simp +decide only [sQ]; rw [if_pos (by simpa using h)]; trivial
 ·refine E1 ?_; simp only [sS]; refine C4.split (fun h2 => ?_) (fun h2 => ?_)
  ·refine A0 ?_; simp only [sS]; refine A3 ?_; simp +decide only [sQ]; rw [if_neg (by simpa using h), if_pos (by simpa using h2)]; trivial
  ·refine A2 ?_; simp +decide only [sQ]; refine A0 ?_; simp only [sS]; refine A3 ?_; simp +decide only [sQ]; rw [if_neg (by simpa using h), if_neg (by simpa using h2)]; trivial
def S0 (a b : Tm) : Int := if a.x ≠ b.x then J5 (a.x - b.x) else if a.y ≠ b.y then J5 (a.y - b.y) else J5 (a.z - b.z)
theorem C5o (lim : Nat) (a b : Tm) (H : A1) (ha : Z6 a = true) (hb : Z6 b = true) : A5 Tryz.prog lim A56 [tv a, tv b] H fun v H' => v = .int .i64 (S0 a b) ∧ Ext H H' := by
 have b1 := B7a ha; have b2 := B7a hb; refine A4h.go rfl ?_; unfold A1g S0; refine A0 ?_; simp only [sS, B8r]; have hA := J8.mk' H a; have hB := J8.mk' (H.alloc (tc a)) b; replace hA := hA.mono hB.ext; generalize (H.alloc (tc a)).alloc (tc b) = H1 at hA hB ⊢; generalize (H.alloc (tc a)).next = q at hB ⊢; generalize H.next = p at hA ⊢; have hx := hA.ext; have w1 : IntKind.i64.wrap (a.x - b.x) = a.x - b.x := by rw [IntKind.wrap_i64]; omega
 have w2 : IntKind.i64.wrap (a.y - b.y) = a.y - b.y := by rw [IntKind.wrap_i64]; omega
 have w3 : IntKind.i64.wrap (a.z - b.z) = a.z - b.z := by rw [IntKind.wrap_i64]; omega
 refine A7 ?_; refine E1 ?_; simp only [sS, Nat.zero_add, hA.c1, hB.c1]; refine C4.split (fun h => ?_) (fun h => ?_)
 ·refine A0 ?_; simp only [sS, Nat.zero_add, hA.c1, hB.c1, w1]; refine (O9 _ _ _).eq ?_; simp only [sS]; refine A3 ?_; simp +decide only [sQ]; rw [if_pos (by simpa using h)]; exact ⟨rfl, hx⟩
 ·refine E1 ?_; simp only [sS, Nat.zero_add, hA.c2, hB.c2]; refine C4.split (fun h2 => ?_) (fun h2 => ?_)
  ·refine A0 ?_; simp only [sS, Nat.zero_add, hA.c2, hB.c2, w2]; refine (O9 _ _ _).eq ?_; simp only [sS]; refine A3 ?_; simp +decide only [sQ]; rw [if_neg (by simpa using h), if_pos (by simpa using h2)]; exact ⟨rfl, hx⟩
  ·refine A2 ?_; simp +decide only [sQ]; refine A0 ?_; simp only [sS, Nat.zero_add, hA.c3, hB.c3, w3]; refine (O9 _ _ _).eq ?_; simp only [sS]; refine A3 ?_; simp +decide only [sQ]; rw [if_neg (by simpa using h), if_neg (by simpa using h2)]; exact ⟨rfl, hx⟩
def A0e : Option Tm → List Tm → Bool
 | _, [] => true
 | u, t :: l => Z6 t && !decide (t.c = 0) && (match u with | none => true | some u => !decide (S0 u t ≥ 0)) && A0e (some t) l
def I1 (p : List Tm) : Bool := A0e none p && decide ((p.length : Int) ≤ 20)
def A17 (p : List Tm) : Nat → Option Tm
 | 0 => none
 | i + 1 => p[i]?
def B3q (p : List Tm) (i : Nat) (t : Tm) : Bool := Z6 t && !decide (t.c = 0) && (match A17 p i with | none => true | some u => !decide (S0 u t ≥ 0))
theorem B55 {p : List Tm} {i : Nat} (h : i < p.length) : A0e (A17 p i) (p.drop i) = (B3q p i p[i] && A0e (A17 p (i + 1)) (p.drop (i + 1))) := by
 rw [List.drop_eq_getElem_cons h]; simp only [A0e, B3q, A17, List.getElem?_eq_getElem h]
theorem A6x (lim : Nat) (s : Value) (p : List Tm) (H : A1) (hl : lim ≤ H.next) (hs : SlT H s p) (hn : p.length ≤ 1000000000) : A5 Tryz.prog lim B79 [s] H fun v H' => v = .bool (I1 p) ∧ Ext H H' := by
 refine B5f.go rfl ?_; unfold A71; refine A0 ?_; simp only [sS]; refine C7 (A0 ?_); simp only [sS, hs.lenV]; refine A7 ?_; refine B9 (fun k e' H' => ∃ (i : Nat) (x y : Value), i + k = p.length ∧ A0e none p = A0e (A17 p i) (p.drop i) ∧ (∀ u, A17 p i = some u → Z6 u = true) ∧ Ext H H' ∧ e' = [s, .bool false, x, y, s, .int .i64 p.length, .int .i64 i]) p.length ⟨0, _, _, by omega, rfl, (by intro u h; cases h), Ext.refl _, rfl⟩ ?_; rintro k e' H' ⟨i, x, y, hik, hall, hprev, hx, rfl⟩; have hnx := hx.next; refine A9 ?_; simp only [sS]; refine C4.split (fun hlt => ?_) (fun hlt => ?_)
 ·have hlt' : i < p.length := by simpa using hlt
  obtain ⟨b1, o1, h1, hat⟩ := (hs.ext hx).at hlt'; rw [B55 hlt'] at hall; refine A2 ?_; simp +decide only [sQ]; refine A7 ?_; refine A0 ?_; simp only [sS, h1, hat.all, K8 (lim := lim) (H := H') (by omega)]; have hB := J8.mk' H' p[i]; generalize H'.alloc (tc p[i]) = H1 at hB ⊢; generalize H'.next = q at hB hnx ⊢; have hx1 := hx.trans hB.ext; refine S8 (!B3q p i p[i]) (Ext H1) ?_ (fun H2 hx2 hg => ?_) (fun H2 hx2 hg => ?_)
  ·simp only [sS, hB.all]; refine (C74 _ _ _).mono ?_; rintro _ H2 ⟨rfl, hx2⟩; have hB2 := hB.mono hx2; unfold B3q; cases h5 : Z6 p[i]
   ·simp only [sS]; simp [hx2]
   ·cases h6 : decide (p[i].c = 0)
    ·have h6' : (p[i].c == 0) = false := by simpa using h6
     cases i with
     | zero =>
       have d0 : decide (((0 : Nat) : Int) > 0) = false := by decide
       simp only [sS, Nat.zero_add, hB2.c0, h6', d0]; simp [A17, hx2]
     | succ i =>
       have d0 : decide (((i + 1 : Nat) : Int) > 0) = true := decide_eq_true (by omega); have w1 : IntKind.i64.wrap (((i + 1 : Nat) : Int) - 1) = (i : Int) := by rw [IntKind.wrap_i64]; omega
       have hi : i < p.length := by omega
       obtain ⟨b2, o2, k1, hat2⟩ := ((hs.ext hx1).ext hx2).at hi; have hpe : A17 p (i + 1) = some p[i] := List.getElem?_eq_getElem hi; simp only [sS, Nat.zero_add, hB2.c0, h6', d0, w1, k1, hat2.all, hB2.all]; refine (C5o _ _ _ _ (hprev _ hpe) h5).mono ?_; rintro _ H3 ⟨rfl, hx3⟩; simp only [sS]; simp [hpe, hx2.trans hx3]
    ·have h6' : (p[i].c == 0) = true := by simpa using h6
     simp only [sS, Nat.zero_add, hB2.c0, h6']; simp [hx2]
  ·refine A0 ?_; simp only [sS]; refine A3 ?_; simp +decide only [sQ]; simp only [Bool.not_eq_true'] at hg; refine ⟨?_, hx1.trans hx2⟩; simp [I1, hall, hg]
  ·refine A2 ?_; simp +decide only [sQ]; refine A4 ?_; simp only [sS, D6 (i := i) (by omega)]; simp +decide only [sQ]; simp only [Bool.not_eq_false'] at hg; rw [hg, Bool.true_and] at hall; refine C6.mk (k - 1) (by omega) ⟨i + 1, _, _, by omega, hall, ?_, hx1.trans hx2, rfl⟩; intro u hu; simp only [A17, List.getElem?_eq_getElem hlt', Option.some.injEq] at hu; subst hu; simp only [B3q, Bool.and_eq_true] at hg; exact hg.1.1
 ·have hge : i = p.length := by simp at hlt; omega
  subst hge; refine B8 ?_; simp +decide only [sQ, reduceIte]; refine A0 ?_; simp only [sS, hs.lenV]; refine A3 ?_; simp +decide only [sQ]; refine ⟨?_, hx⟩; rw [List.drop_length] at hall; simp [I1, hall, A0e]
def pw (t : Tm) (k : Int) : Int := if k = 0 then t.x else if k = 1 then t.y else t.z
theorem B6k (lim : Nat) (t : Tm) (k : Int) (H : A1) : A5 Tryz.prog lim B7n [tv t, .int .i64 k] H fun v H' => v = .int .i64 (pw t k) ∧ Ext H H' := by
 refine B4p.go rfl ?_; unfold A53 pw; refine A0 ?_; simp only [sS, B8r]; have hA := J8.mk' H t; generalize H.alloc (tc t) = H1 at hA ⊢; generalize H.next = p at hA ⊢; have hx := hA.ext; refine A0 ?_; simp only [sS]; refine A8 ?_; refine E1 ?_; simp only [sS]; refine C4.split (fun h => ?_) (fun h => ?_)
 ·refine A0 ?_; simp only [sS, Nat.zero_add, hA.c1]; refine A3 ?_; simp +decide only [sQ]; rw [if_pos (by simpa using h)]; exact ⟨rfl, hx⟩
 ·refine E1 ?_; simp only [sS]; refine C4.split (fun h2 => ?_) (fun h2 => ?_)
  ·refine A0 ?_; simp only [sS, Nat.zero_add, hA.c2]; refine A3 ?_; simp +decide only [sQ]; rw [if_neg (by simpa using h), if_pos (by simpa using h2)]; exact ⟨rfl, hx⟩
  ·refine A2 ?_; simp +decide only [sQ]; refine A0 ?_; simp only [sS, Nat.zero_add, hA.c3]; refine A3 ?_; simp +decide only [sQ]; rw [if_neg (by simpa using h), if_neg (by simpa using h2)]; exact ⟨rfl, hx⟩
theorem V7 (lim : Nat) (a b : Int) (H : A1) : A5 Tryz.prog lim A8n [.int .i64 a, .int .i64 b] H fun v H' => v = .int .i64 (if a > b then a else b) ∧ H' = H := by
 refine B58.go rfl ?_; unfold A70; refine A0 ?_; simp only [sS]; refine A9 ?_; simp only [sS]; refine C4.split (fun h => ?_) (fun h => ?_)
 ·refine A0 ?_; simp only [sS]; refine A3 ?_; simp +decide only [sQ]; rw [if_pos (by simpa using h)]; trivial
 ·refine A2 ?_; simp +decide only [sQ]; refine A0 ?_; simp only [sS]; refine A3 ?_; simp +decide only [sQ]; rw [if_neg (by simpa using h)]; trivial
def I3 (k : Int) : Int → List Tm → Int
 | m, [] => m
 | m, t :: l => I3 k (if m > pw t k then m else pw t k) l
theorem j0 (lim : Nat) (s : Value) (p : List Tm) (k : Int) (H : A1) (hl : lim ≤ H.next) (hs : SlT H s p) (hn : p.length ≤ 1000000000) : A5 Tryz.prog lim B1h [s, .int .i64 k] H fun v H' => v = .int .i64 (I3 k (-1) p) ∧ Ext H H' := by
 refine A8v.go rfl ?_; unfold A19; refine A0 ?_; simp only [sS]; refine A0 ?_; simp only [sS]; refine C7 (A0 ?_); simp only [sS, hs.lenV]; refine A7 ?_; refine B9 (fun j e' H' => ∃ (i : Nat) (m : Int) (y : Value), i + j = p.length ∧ I3 k (-1) p = I3 k m (p.drop i) ∧ Ext H H' ∧ e' = [s, .int .i64 k, .int .i64 0, .int .i64 m, y, s, .int .i64 p.length, .int .i64 i]) p.length ⟨0, -1, _, by omega, rfl, Ext.refl _, rfl⟩ ?_; rintro j e' H' ⟨i, m, y, hik, hall, hx, rfl⟩; have hnx := hx.next; refine A9 ?_; simp only [sS]; refine C4.split (fun hlt => ?_) (fun hlt => ?_)
 ·have hlt' : i < p.length := by simpa using hlt
  obtain ⟨b1, o1, h1, hat⟩ := (hs.ext hx).at hlt'; rw [List.drop_eq_getElem_cons hlt', I3] at hall; refine A2 ?_; simp +decide only [sQ]; refine A7 ?_; refine A0 ?_; simp only [sS, h1, hat.all, K8 (lim := lim) (H := H') (by omega)]; have hB := J8.mk' H' p[i]; generalize H'.alloc (tc p[i]) = H1 at hB ⊢; generalize H'.next = q at hB hnx ⊢; have hx1 := hx.trans hB.ext; refine A4 ?_; simp only [sS, hB.all]; refine (B6k _ _ _ _).mono ?_; rintro _ H2 ⟨rfl, hx2⟩; simp only [sS]; refine (V7 _ _ _ _).eq ?_; simp only [sS]; simp +decide only [sQ]; refine A4 ?_; simp only [sS, D6 (i := i) (by omega)]; simp +decide only [sQ]; exact C6.mk (j - 1) (by omega) ⟨i + 1, _, _, by omega, hall, hx1.trans hx2, rfl⟩
 ·have hge : i = p.length := by simp at hlt; omega
  subst hge; refine B8 ?_; simp +decide only [sQ, reduceIte]; refine A0 ?_; simp only [sS]; refine A3 ?_; simp +decide only [sQ]; rw [List.drop_length, I3] at hall; rw [hall]; exact ⟨rfl, hx⟩
def I9 (k : Nat) (p : List Tm) : Bool := (decide (k > 0) || !decide (I3 0 (-1) p > 0)) && (decide (k > 1) || !decide (I3 1 (-1) p > 0)) && (decide (k > 2) || !decide (I3 2 (-1) p > 0))
theorem C5u {k : Nat} (p : List Tm) (h : k < 3) : I9 k p = (!decide (I3 (k : Int) (-1) p > 0) && I9 (k + 1) p) := by
 match k, h with
 | 0, _ => simp [I9, Bool.and_assoc]
 | 1, _ => simp [I9]
 | 2, _ => simp [I9]
theorem C3u {k : Nat} (p : List Tm) (h : 3 ≤ k) : I9 k p = true := by
 simp only [I9, Bool.and_eq_true, Bool.or_eq_true, decide_eq_true_eq]; omega
def B4d (n : Nat) : List (List Tm) → Bool
 | [] => true
 | p :: l => I1 p && I9 n p && B4d n l
def P7 (ss : List (List Tm)) : Bool := B4d ss.length ss && (decide (1 ≤ (ss.length : Int)) && decide ((ss.length : Int) ≤ 3))
theorem C37 (lim : Nat) (s : Value) (ss : List (List Tm)) (H : A1) (hl : lim ≤ H.next) (hs : l3 H s ss) (hn : ss.length ≤ 1000000) (hn2 : ∀ p ∈ ss, p.length ≤ 1000000) : A5 Tryz.prog lim B31 [s] H fun v H' => v = .bool (P7 ss) ∧ Ext H H' := by
 refine B26.go rfl ?_; unfold A4y; refine A0 ?_; simp only [sS]; refine C7 (A0 ?_); simp only [sS, hs.lenV]; refine A7 ?_; refine B9 (fun j e' H' => ∃ (i : Nat) (x y : Value), i + j = ss.length ∧ B4d ss.length ss = B4d ss.length (ss.drop i) ∧ Ext H H' ∧ e' = [s, .bool false, x, y, s, .int .i64 ss.length, .int .i64 i]) ss.length ⟨0, _, _, by omega, rfl, Ext.refl _, rfl⟩ ?_; rintro j e' H' ⟨i, x, y, hik, hall, hx, rfl⟩; have hnx := hx.next; refine A9 ?_; simp only [sS]; refine C4.split (fun hlt => ?_) (fun hlt => ?_)
 ·have hlt' : i < ss.length := by simpa using hlt
  obtain ⟨b1, o1, s1, h1, h2, h3⟩ := (hs.ext hx).at hlt'; have hpl := hn2 _ (List.getElem_mem hlt'); rw [List.drop_eq_getElem_cons hlt', B4d] at hall; refine A2 ?_; simp +decide only [sQ]; refine A7 ?_; refine A0 ?_; simp only [sS, h1, h2]; refine A9 ?_; simp only [sS]; refine (A6x lim _ _ _ (by omega) h3 (by omega)).mono ?_; rintro _ H2 ⟨rfl, hx2⟩; simp only [sS]; refine C4.split (fun hg => ?_) (fun hg => ?_)
  ·refine A0 ?_; simp only [sS]; refine A3 ?_; simp +decide only [sQ]; simp only [Bool.not_eq_true'] at hg; refine ⟨?_, hx.trans hx2⟩; simp [P7, hall, hg]
  ·simp only [Bool.not_eq_false'] at hg; rw [hg, Bool.true_and] at hall; refine A2 ?_; simp +decide only [sQ]; refine A0 ?_; simp only [sS, hs.lenV]; refine A8 ?_; refine B9 (fun j2 e' H2' => ∃ (k : Nat), k + j2 = ss.length + 3 ∧ (I9 ss.length ss[i] = I9 k ss[i]) ∧ Ext H2 H2' ∧ e' = [s, .bool false, s1, .int .i64 k, s, .int .i64 ss.length, .int .i64 i]) 3 ⟨ss.length, by omega, rfl, Ext.refl _, rfl⟩ ?_; rintro j2 e' H2' ⟨k, hk, hfr, hx3, rfl⟩; refine A9 ?_; simp only [sS]; refine C4.split (fun hlt3 => ?_) (fun hlt3 => ?_)
   ·have hk3 : k < 3 := by simp at hlt3; omega
    rw [C5u _ hk3] at hfr; refine A2 ?_; simp +decide only [sQ]; refine A7 ?_; refine E1 ?_; simp only [sS]; have hn3 := hx3.next; have hn2' := hx2.next; refine (j0 lim _ _ k _ (by omega) ((h3.ext hx2).ext hx3) (by omega)).mono ?_; rintro _ H3 ⟨rfl, hx4⟩; simp only [sS]; refine C4.split (fun hd => ?_) (fun hd => ?_)
    ·refine A0 ?_; simp only [sS]; refine A3 ?_; simp +decide only [sQ]; refine ⟨?_, ((hx.trans hx2).trans hx3).trans hx4⟩; rw [hd] at hfr; simp [P7, hall, hfr]
    ·refine A2 ?_; simp +decide only [sQ]; refine A4 ?_; simp only [sS, D6 (i := k) (by omega)]; simp +decide only [sQ]; rw [hd, Bool.not_false, Bool.true_and] at hfr; exact C6.mk (j2 - 1) (by omega) ⟨k + 1, by omega, hfr, hx3.trans hx4, rfl⟩
   ·have hk3 : 3 ≤ k := by simp at hlt3; omega
    rw [C3u _ hk3] at hfr; refine B8 ?_; simp +decide only [sQ, reduceIte]; refine A4 ?_; simp only [sS, D6 (i := i) (by omega)]; simp +decide only [sQ]; rw [hfr, Bool.true_and] at hall; exact C6.mk (j - 1) (by omega) ⟨i + 1, _, _, by omega, hall, (hx.trans hx2).trans hx3, rfl⟩
 ·have hge : i = ss.length := by simp at hlt; omega
  subst hge; refine B8 ?_; simp +decide only [sQ, reduceIte]; refine A0 ?_; simp only [sS, hs.lenV]; refine (L6 _ _ _ _ _).eq ?_; simp only [sS]; refine A3 ?_; simp +decide only [sQ]; refine ⟨?_, hx⟩; rw [List.drop_length, B4d] at hall; simp only [P7, hall, Bool.true_and]
end Go.Proofs.YtmdeppkfboaepaaGreat
namespace Go.Ab
theorem awp.mono {P : Program} {lim : Nat} : ∀ (c : C1) {Q Q' : J6} {e : List Value} {H : A1}, (∀ ex e H, Q ex e H → Q' ex e H) → awp P lim c Q e H → awp P lim c Q' e H
 | .skip, _, _, _, _, hq, h => hq _ _ _ h
 | .reg ops, _, _, _, _, hq, h => D8.mono (fun _ _ _ h => hq _ _ _ h) h
 | .regT T, _, _, _, _, hq, h => T6.mono (fun _ _ _ h => hq _ _ _ h) h
 | .test ops c a b, _, _, _, _, hq, h => by
   refine D8.mono ?_ h; rintro e t H ⟨g, h1, h2⟩; refine ⟨g, h1, ?_⟩; cases g with
   | true => exact awp.mono a hq h2
   | false => exact awp.mono b hq h2
 | .seq a b, _, _, _, _, hq, h => by
   refine awp.mono a ?_ h; intro ex e H h; cases ex <;> first | exact awp.mono b hq h | exact hq _ _ _ h
 | .cond c a b, _, _, _, _, hq, ⟨g, h1, h2⟩ => by
   refine ⟨g, h1, ?_⟩; cases g with
   | true => exact awp.mono a hq h2
   | false => exact awp.mono b hq h2
 | .block id c, _, _, _, _, hq, h => by
   refine awp.mono c ?_ h; intro ex e H h; cases ex with
   | exit i =>
     simp only [J6.block] at h ⊢; split <;> rename_i hi
     ·rw [if_pos hi] at h; exact hq _ _ _ h
     ·rw [if_neg hi] at h; exact hq _ _ _ h
   | _ => exact hq _ _ _ h
 | .loop c, _, _, _, _, hq, ⟨I, k, h1, h2⟩ => by
   refine ⟨I, k, h1, fun k e H hI => awp.mono c ?_ (h2 k e H hI)⟩; intro ex e H h; cases ex <;> first | exact h | exact hq _ _ _ h
 | .exit id, _, _, _, _, hq, h => hq _ _ _ h
 | .ret, _, _, _, _, hq, h => hq _ _ _ h
 | .fail, _, _, _, _, _, h => h.elim
theorem C9v {P : Program} {lim : Nat} {K : List Value → A1 → Prop} {Q : J6} {e : List Value} {H : A1} {a : C1} (I : List Value → A1 → Prop) (h : awp P lim a (J6.seq I (fun _ _ _ => False)) e H) (h1 : ∀ e' H', I e' H' → K e' H') : awp P lim a (J6.seq K Q) e H := by
 refine awp.mono a ?_ h; intro ex e H h; cases ex <;> first | exact h1 _ _ h | exact h.elim
end Go.Ab
namespace Go.Proofs.YtmdeppkfboaepaaGreat
open Go.Ab
theorem B44 (H : A1) : E0 H 0 [] [] = some (.slice (some ⟨H.next, 0, some 0⟩) 0 0, H.alloc []) := rfl
theorem B3i {lim : Nat} {H : A1} {s : Value} {p : List Tm} (hl : lim ≤ H.next) (hs : SlT H s p) (hn : p.length ≤ 1000000000) :
 ∃ v' H' b, E4 lim (H.alloc []) 4 32 (.slice (some ⟨H.next, 0, some 0⟩) 0 0) s = some (v', H') ∧ G8 H' b v' p ∧ H.next ≤ b ∧ b < H'.next ∧ Ext H H' := by
 have h0 : Vec (H.alloc []) H.next (.slice (some ⟨H.next, 0, some 0⟩) 0 0) 0 4 [] := Vec.lit rfl; obtain ⟨v', H', b', h1, h2, h3, h4, h5⟩ := h0.append (lim := lim) hl (hs.ext (Ext.alloc H [])) (by decide) (bytes := 32) (by omega); refine ⟨v', H', b', h1, by simpa [G8] using h2, by rcases h3 with rfl | ⟨rfl, _⟩ <;> simp [I5], ?_, Chg.ext (Ext.alloc H []) h4 (Nat.le_refl _)⟩; rcases h3 with rfl | ⟨rfl, h6⟩
 ·exact Nat.lt_of_lt_of_le (Nat.lt_succ_self _) h4.next
 ·exact h6
theorem N3 (lim : Nat) (s : Value) (p : List Tm) (H : A1) (hl : lim ≤ H.next) (hs : SlT H s p) (hn : p.length ≤ 1000000000) :
 A5 Tryz.prog lim T7 [s] H fun v H' => ∃ b, H.next ≤ b ∧ b ≤ H'.next ∧ G8 H' b v p ∧ Ext H H' := by
 refine S9.go rfl ?_; unfold L8; refine A0 ?_; simp only [sS]; refine A9 ?_; have hs2 := hs; obtain ⟨_, a, cap, rfl, hc, hc0, _⟩ := hs2; cases a with
 | none =>
   have := hc0 rfl; have hl0 : p = [] := List.length_eq_zero_iff.1 (by omega); subst hl0; simp only [sS]; refine C4.true_ (A0 ?_); simp only [sS]; refine A3 ?_; simp +decide only [sQ]; exact ⟨H.next, Nat.le_refl _, Nat.le_refl _, Vec.nil _ _ _, Ext.refl _⟩
 | some ad =>
   obtain ⟨v', H', b, h1, h2, h3, h4, h5⟩ := B3i hl hs hn; simp only [sS]; refine C4.false_ (A2 ?_); simp +decide only [sQ]; refine A0 ?_; simp only [sS, B44, h1]; refine A3 ?_; simp +decide only [sQ]; exact ⟨b, h3, by omega, h2, h5⟩
theorem L7 (H : A1) {x : Value} (z : Value) (hx : C2 x = some [x]) : E0 H 1 [z] [(0, 1, x)] = some (.slice (some ⟨H.next, 0, some 0⟩) 1 1, H.alloc [x]) := by
 simp [E0, C9, hx]
theorem n5 {lim : Nat} {H : A1} {b n bytes : Nat} {v : Value} {cells : List Value} (h : Vec H b v n 1 cells) (x : Value) (hl : lim ≤ b) (hn : (n + 1) * bytes ≤ 140737488355328) :
 ∃ v' H' b', E4 lim (H.alloc [x]) 1 bytes v (.slice (some ⟨H.next, 0, some 0⟩) 1 1) = some (v', H') ∧ Vec H' b' v' (n + 1) 1 (cells ++ [x]) ∧ (b' = b ∨ H.next < b') ∧ b' < H'.next ∧ Chg b H H' ∧ H.next < H'.next := by
 have hx : Vec (H.alloc [x]) H.next (.slice (some ⟨H.next, 0, some 0⟩) 1 1) 1 1 [x] := Vec.lit rfl; obtain ⟨v', H', b', h1, h2, h3, h4, h5⟩ := (h.ext (Ext.alloc H [x])).append (lim := lim) hl hx.sl (by decide) (bytes := bytes) hn; refine ⟨v', H', b', h1, h2, ?_, (h2.blk (by omega)).elim fun _ h => h.2, (Chg.of_ext (Ext.alloc H [x])).trans h4, Nat.lt_of_lt_of_le (Nat.lt_succ_self _) h4.next⟩; rcases h3 with rfl | ⟨rfl, _⟩
 ·exact .inl rfl
 ·exact .inr (Nat.lt_succ_self _)
structure A4l (H : A1) (lo b : Nat) (vs : List Value) (bs : List Nat) (v : Value) (ss : List (List Tm)) : Prop where
 vec : Vec H b v ss.length 1 vs
 len : bs.length = ss.length
 nil : ss = [] → v = .slice none 0 0
 low : lo ≤ b
 hi : ss ≠ [] → b < H.next
 nodup : bs.Nodup
 nin : b ∉ bs
 rngs : ∀ c ∈ bs, lo ≤ c ∧ c < H.next
 el : ∀ (i : Nat) (p : List Tm), ss[i]? = some p → ∃ s c, vs[i]? = some s ∧ bs[i]? = some c ∧ G8 H c s p
theorem A4l.nil' (H : A1) : A4l H H.next H.next [] [] (.slice none 0 0) [] :=
 ⟨Vec.nil _ _ _, rfl, fun _ => rfl, Nat.le_refl _, fun h => absurd rfl h, List.nodup_nil, by simp, by simp, by intro i p h; simp at h⟩
end Go.Proofs.YtmdeppkfboaepaaGreat
namespace Go.Proofs.YtmdeppkfboaepaaGreat
open Go.Ab
theorem J7 (lim : Nat) (a b c : Int) (H : A1) : A5 Tryz.prog lim A78 [.int .i64 a, .int .i64 b, .int .i64 c] H fun v H' => v = .bool (decide (b ≤ a) && decide (a ≤ c)) ∧ H' = H := by
 refine A5h.go rfl ?_; unfold A2q; refine A0 ?_; simp only [sS]; refine A0 ?_; have e1 : (a ≥ b) = (b ≤ a) := rfl; cases h1 : decide (b ≤ a)
 ·simp only [sS, e1, h1]; refine A3 ?_; simp +decide only [sQ]; simp
 ·simp only [sS, e1, h1]; refine A3 ?_; simp +decide only [sQ]; simp
theorem A64 (lim : Nat) (t : Tm) (H : A1) (h1 : 0 ≤ t.x ∧ t.x ≤ 4) (h2 : 0 ≤ t.y ∧ t.y ≤ 4) (h3 : 0 ≤ t.z ∧ t.z ≤ 4) : A5 Tryz.prog lim A9b [tv t] H fun v H' => v = .int .i64 (t.x + t.y + t.z) ∧ Ext H H' := by
 refine A7l.go rfl ?_; unfold A0y; refine A0 ?_; simp only [sS, B8r]; have hB := J8.mk' H t; generalize H.alloc (tc t) = H1 at hB ⊢; generalize H.next = p at hB ⊢; have hx := hB.ext; have w1 : IntKind.i64.wrap (t.x + t.y) = t.x + t.y := by rw [IntKind.wrap_i64]; omega
 have w2 : IntKind.i64.wrap (t.x + t.y + t.z) = t.x + t.y + t.z := by rw [IntKind.wrap_i64]; omega
 refine A0 ?_; simp only [sS, Nat.zero_add, hB.c1, hB.c2, hB.c3, w1, w2]; refine A3 ?_; simp +decide only [sQ]; exact ⟨trivial, hx⟩
def C94 (t : Tm) : Bool := (((decide (0 ≤ t.x) && decide (t.x ≤ 4)) && (decide (0 ≤ t.y) && decide (t.y ≤ 4))) && (decide (0 ≤ t.z) && decide (t.z ≤ 4))) && decide (t.x + t.y + t.z ≤ 4)
theorem C00 (lim : Nat) (t : Tm) (H : A1) : A5 Tryz.prog lim B2q [tv t] H fun v H' => v = .bool (C94 t) ∧ Ext H H' := by
 refine B08.go rfl ?_; unfold A3j; refine A0 ?_; simp only [sS, B8r]; have hB := J8.mk' H t; generalize H.alloc (tc t) = H1 at hB ⊢; generalize H.next = p at hB ⊢; have hx := hB.ext; refine A0 ?_; simp only [sS, Nat.zero_add, hB.c1]; refine (J7 _ _ _ _ _).eq ?_; unfold C94; cases h2 : decide (0 ≤ t.x) && decide (t.x ≤ 4)
 ·simp only [sS]; refine A3 ?_; simp +decide only [sQ]; exact ⟨by simp, hx⟩
 simp only [sS, Nat.zero_add, hB.c2]; refine (J7 _ _ _ _ _).eq ?_; cases h3 : decide (0 ≤ t.y) && decide (t.y ≤ 4)
 ·simp only [sS]; refine A3 ?_; simp +decide only [sQ]; exact ⟨by simp, hx⟩
 simp only [sS, Nat.zero_add, hB.c3]; refine (J7 _ _ _ _ _).eq ?_; cases h4 : decide (0 ≤ t.z) && decide (t.z ≤ 4)
 ·simp only [sS]; refine A3 ?_; simp +decide only [sQ]; exact ⟨by simp, hx⟩
 simp only [Bool.and_eq_true, decide_eq_true_eq] at h2 h3 h4; simp only [sS, hB.all]; refine (A64 _ _ _ h2 h3 h4).mono ?_; rintro _ H2 ⟨rfl, hx2⟩; simp only [sS]; refine A3 ?_; simp +decide only [sQ]; exact ⟨by simp, hx.trans hx2⟩
def d5 (a b : Int) : Int := if a < b then -1 else if a > b then 1 else 0
theorem C3m (lim : Nat) (a : Int) (H : A1) : A5 Tryz.prog lim B4f [.int .i64 a] H fun v H' => v = .bool false ∧ H' = H := by
 refine B12.go rfl ?_; unfold A4r; have h : (a != a) = false := by simp
 refine A0 ?_; simp only [sS]; refine A0 ?_; simp only [sS, h]; refine A3 ?_; simp +decide only [sQ]
theorem A32 (lim : Nat) (a b : Int) (H : A1) : A5 Tryz.prog lim B0k [.int .i64 a, .int .i64 b] H fun v H' => v = .int .i64 (d5 a b) ∧ H' = H := by
 refine A9a.go rfl ?_; unfold A1x d5; refine A0 ?_; simp only [sS]; refine A0 ?_; simp only [sS]; refine (C3m _ _ _).eq ?_; simp only [sS]; refine A0 ?_; simp only [sS]; refine (C3m _ _ _).eq ?_; simp only [sS]; refine A9 ?_; simp only [sS]; refine C4.false_ (A2 ?_); simp +decide only [sQ]; refine A9 ?_; simp only [sS]; refine C4.false_ (A2 ?_); simp +decide only [sQ]; refine A9 ?_; simp only [sS]; refine C4.split (fun h => ?_) (fun h => ?_)
 ·refine A0 ?_; simp only [sS]; refine A3 ?_; simp +decide only [sQ]; rw [if_pos (by simpa using h)]; trivial
 ·refine A2 ?_; simp +decide only [sQ]; refine A9 ?_; simp only [sS]; refine C4.split (fun h2 => ?_) (fun h2 => ?_)
  ·refine A0 ?_; simp only [sS]; refine A3 ?_; simp +decide only [sQ]; rw [if_neg (by simpa using h), if_pos (by simpa using h2)]; trivial
  ·refine A2 ?_; simp +decide only [sQ]; refine A0 ?_; simp only [sS]; refine A3 ?_; simp +decide only [sQ]; rw [if_neg (by simpa using h), if_neg (by simpa using h2)]; trivial
def orL : List Int → Int
 | [] => 0
 | x :: l => if x ≠ 0 then x else orL l
theorem D4t (lim : Nat) (s : Value) (l : List Int) (H : A1) (hs : Sl H s l.length 1 (l.map vi)) (hn : l.length ≤ 1000) : A5 Tryz.prog lim C0z [s] H fun v H' => v = .int .i64 (orL l) ∧ H' = H := by
 refine B8q.go rfl ?_; unfold A9t; refine A0 ?_; simp only [sS]; refine A0 ?_; simp only [sS]; refine C7 (A0 ?_); simp only [sS, hs.lenV]; refine A7 ?_; refine B9 (fun k e' H' => H' = H ∧ ∃ (i : Nat) (y : Value), i + k = l.length ∧ orL l = orL (l.drop i) ∧ e' = [s, .int .i64 0, .int .i64 0, y, s, .int .i64 l.length, .int .i64 i]) l.length ⟨rfl, 0, _, by omega, rfl, rfl⟩ ?_; rintro k e' H ⟨rfl, i, y, hik, hall, rfl⟩; refine A9 ?_; simp only [sS]; refine C4.split (fun hlt => ?_) (fun hlt => ?_)
 ·have hlt' : i < l.length := by simpa using hlt
  obtain ⟨b, o, h1, h2, h3⟩ := hs.cell .i64 (i := (i : Int)) (by omega) (by omega); rw [show (i : Int).toNat = i by omega, List.getElem?_map, List.getElem?_eq_getElem hlt'] at h3; simp only [Option.map_some] at h3; rw [List.drop_eq_getElem_cons hlt', orL] at hall; refine A2 ?_; simp +decide only [sQ]; refine A7 ?_; refine A0 ?_; simp only [sS, h1, h3]; refine E1 ?_; simp only [sS]; refine C4.split (fun h => ?_) (fun h => ?_)
  ·refine A0 ?_; simp only [sS]; refine A3 ?_; simp +decide only [sQ]; rw [if_pos (by simpa using h)] at hall; rw [hall]; trivial
  ·refine A2 ?_; simp +decide only [sQ]; refine A4 ?_; simp only [sS, D6 (i := i) (by omega)]; simp +decide only [sQ]; rw [if_neg (by simpa using h)] at hall; exact C6.mk (k - 1) (by omega) ⟨rfl, i + 1, _, by omega, hall, rfl⟩
 ·have hge : i = l.length := by simp at hlt; omega
  subst hge; refine B8 ?_; simp +decide only [sQ, reduceIte]; refine A0 ?_; simp only [sS]; refine A3 ?_; simp +decide only [sQ]; rw [List.drop_length, orL] at hall; rw [hall]; trivial
theorem D0t (a b c : Value) (k l m : Int) : C9 [a, b, c] [(0, 1, .int .i64 k), (1, 1, .int .i64 l), (2, 1, .int .i64 m)] = some [vi k, vi l, vi m] := by
 simp [C9, C2]
def D28 (a b : Tm) : Int := orL [d5 a.x b.x, d5 a.y b.y, d5 a.z b.z]
theorem B4j (lim : Nat) (a b : Tm) (H : A1) : A5 Tryz.prog lim A7d [tv a, tv b] H fun v H' => v = .int .i64 (D28 a b) ∧ Ext H H' := by
 refine A5w.go rfl ?_; unfold u7; refine A0 ?_; simp only [sS, B8r]; have hA := J8.mk' H a; have hB := J8.mk' (H.alloc (tc a)) b; replace hA := hA.mono hB.ext; generalize (H.alloc (tc a)).alloc (tc b) = H1 at hA hB ⊢; generalize (H.alloc (tc a)).next = q at hB ⊢; generalize H.next = p at hA ⊢; have hx := hA.ext; refine A0 ?_; simp only [sS, Nat.zero_add, hA.c1, hB.c1, hA.c2, hB.c2, hA.c3, hB.c3]; refine (A32 _ _ _ _).use ?_; rintro _ HH ⟨rfl, hh⟩ _; subst HH; simp only [sS]; refine (A32 _ _ _ _).use ?_; rintro _ HH ⟨rfl, hh⟩ _; subst HH; simp only [sS]; refine (A32 _ _ _ _).eq ?_; have hlit : Sl (H1.alloc [vi (d5 a.x b.x), vi (d5 a.y b.y), vi (d5 a.z b.z)]) (.slice (some ⟨H1.next, 0, some 0⟩) 3 3) 3 1 [vi (d5 a.x b.x), vi (d5 a.y b.y), vi (d5 a.z b.z)] := Vec.sl (Vec.lit rfl); have hx2 := Ext.alloc H1 [vi (d5 a.x b.x), vi (d5 a.y b.y), vi (d5 a.z b.z)]; have hbs : E0 H1 3 [.int .i64 0, .int .i64 0, .int .i64 0] [(0, 1, .int .i64 (d5 a.x b.x)), (1, 1, .int .i64 (d5 a.y b.y)), (2, 1, .int .i64 (d5 a.z b.z))] = some (.slice (some ⟨H1.next, 0, some 0⟩) 3 3, H1.alloc [vi (d5 a.x b.x), vi (d5 a.y b.y), vi (d5 a.z b.z)]) := by
  simp only [E0, D0t, Option.map_some]
 simp only [sS, hbs]; refine (D4t _ _ [d5 a.x b.x, d5 a.y b.y, d5 a.z b.z] _ hlit (by simp)).eq ?_; simp only [sS]; refine A3 ?_; simp +decide only [sQ]; exact ⟨rfl, hx.trans hx2⟩
theorem C11 (a b : Int) : d5 a b = J5 (a - b) := by
 unfold d5 J5; rcases Int.lt_trichotomy a b with h | h | h
 ·rw [if_pos h, if_neg (by omega), if_pos (by omega)]
 ·rw [if_neg (by omega), if_neg (by omega), if_neg (by omega), if_neg (by omega)]
 ·rw [if_neg (by omega), if_pos h, if_pos (by omega)]
theorem C6i (n : Int) : J5 n ≠ 0 ↔ n ≠ 0 := by
 unfold J5; rcases Int.lt_trichotomy n 0 with h | h | h
 ·rw [if_neg (by omega), if_pos h]; omega
 ·rw [if_neg (by omega), if_neg (by omega)]; omega
 ·rw [if_pos h]; omega
theorem D05 {a b : Tm} : D28 a b = S0 a b := by
 unfold D28 S0; rw [C11, C11, C11]; simp only [orL]; have z : ∀ n : Int, n = 0 → J5 n = 0 := by rintro n rfl; simp [J5]
 by_cases h1 : a.x = b.x
 ·have s1 := z (b.x - b.x) (by omega); simp only [s1, h1, ne_eq, not_true_eq_false, if_false]; by_cases h2 : a.y = b.y
  ·have s2 := z (b.y - b.y) (by omega); simp only [s2, h2, not_true_eq_false, if_false]; by_cases h3 : J5 (a.z - b.z) = 0
   ·simp only [h3, not_true_eq_false, if_false]
   ·simp only [h3, not_false_eq_true, if_true]
  ·have s2 : J5 (a.y - b.y) ≠ 0 := (C6i _).2 (by omega); simp only [ne_eq] at s2; simp only [s2, h2, not_false_eq_true, if_true]
 ·have s1 : J5 (a.x - b.x) ≠ 0 := (C6i _).2 (by omega); simp only [ne_eq] at s1; simp only [s1, h1, ne_eq, not_false_eq_true, if_true]
theorem C4u (p : List Tm) (i : Nat) (t : Tm) : B3q p i t = (!decide (t.c = 0) && (decide (-1000 ≤ t.c) && decide (t.c ≤ 1000)) && C94 t && (match A17 p i with | none => true | some u => !decide (S0 u t ≥ 0))) := by
 unfold B3q Z6 C94; cases A17 p i <;> cases decide (t.c = 0) <;> cases (decide (-1000 ≤ t.c) && decide (t.c ≤ 1000)) <;> simp
theorem B1x (lim : Nat) (s : Value) (p : List Tm) (H : A1) (hl : lim ≤ H.next) (hs : SlT H s p) (hn : p.length ≤ 1000000000) : A5 Tryz.prog lim B8o [s] H fun v H' => v = .bool (I1 p) ∧ Ext H H' := by
 refine B5j.go rfl ?_; unfold A7t; refine A0 ?_; simp only [sS]; refine C7 (A0 ?_); simp only [sS, hs.lenV]; refine A7 ?_; refine B9 (fun k e' H' => ∃ (i : Nat) (x y : Value), i + k = p.length ∧ A0e none p = A0e (A17 p i) (p.drop i) ∧ Ext H H' ∧ e' = [s, .bool false, x, y, s, .int .i64 p.length, .int .i64 i]) p.length ⟨0, _, _, by omega, rfl, Ext.refl _, rfl⟩ ?_; rintro k e' H' ⟨i, x, y, hik, hall, hx, rfl⟩; have hnx := hx.next; refine A9 ?_; simp only [sS]; refine C4.split (fun hlt => ?_) (fun hlt => ?_)
 ·have hlt' : i < p.length := by simpa using hlt
  obtain ⟨b1, o1, h1, hat⟩ := (hs.ext hx).at hlt'; rw [B55 hlt'] at hall; refine A2 ?_; simp +decide only [sQ]; refine A7 ?_; refine A0 ?_; simp only [sS, h1, hat.all, K8 (lim := lim) (H := H') (by omega)]; have hB := J8.mk' H' p[i]; generalize H'.alloc (tc p[i]) = H1 at hB ⊢; generalize H'.next = q at hB hnx ⊢; have hx1 := hx.trans hB.ext; refine S8 (!B3q p i p[i]) (Ext H1) ?_ (fun H2 hx2 hg => ?_) (fun H2 hx2 hg => ?_)
  ·rw [C4u]; cases h6 : decide (p[i].c = 0)
   ·have h6' : (p[i].c == 0) = false := by simpa using h6
    simp only [sS, Nat.zero_add, hB.c0, h6']; refine (J7 _ _ _ _ _).eq ?_; cases h7 : decide (-1000 ≤ p[i].c) && decide (p[i].c ≤ 1000)
    ·simp only [sS]; simp [Ext.refl]
    ·simp only [sS, hB.all]; refine (C00 _ _ _).mono ?_; rintro _ H2 ⟨rfl, hx2⟩; have hB2 := hB.mono hx2; cases h5 : C94 p[i]
     ·simp only [sS]; simp [hx2]
     ·cases i with
      | zero =>
        have d0 : decide (((0 : Nat) : Int) > 0) = false := by decide
        simp only [sS, d0]; simp [A17, hx2]
      | succ i =>
        have d0 : decide (((i + 1 : Nat) : Int) > 0) = true := decide_eq_true (by omega); have w1 : IntKind.i64.wrap (((i + 1 : Nat) : Int) - 1) = (i : Int) := by rw [IntKind.wrap_i64]; omega
        have hi : i < p.length := by omega
        obtain ⟨b2, o2, k1, hat2⟩ := ((hs.ext hx1).ext hx2).at hi; have hpe : A17 p (i + 1) = some p[i] := List.getElem?_eq_getElem hi; simp only [sS, d0, w1, k1, hat2.all, hB2.all]; refine (B4j _ _ _ _).mono ?_; rintro _ H3 ⟨rfl, hx3⟩; simp only [sS, D05]; simp [hpe, hx2.trans hx3]
   ·have h6' : (p[i].c == 0) = true := by simpa using h6
    simp only [sS, Nat.zero_add, hB.c0, h6']; simp [Ext.refl]
  ·refine A0 ?_; simp only [sS]; refine A3 ?_; simp +decide only [sQ]; simp only [Bool.not_eq_true'] at hg; refine ⟨?_, hx1.trans hx2⟩; simp [I1, hall, hg]
  ·refine A2 ?_; simp +decide only [sQ]; refine A4 ?_; simp only [sS, D6 (i := i) (by omega)]; simp +decide only [sQ]; simp only [Bool.not_eq_false'] at hg; rw [hg, Bool.true_and] at hall; exact C6.mk (k - 1) (by omega) ⟨i + 1, _, _, by omega, hall, hx1.trans hx2, rfl⟩
 ·have hge : i = p.length := by simp at hlt; omega
  subst hge; refine B8 ?_; simp +decide only [sQ, reduceIte]; refine A0 ?_; simp only [sS, hs.lenV]; refine A3 ?_; simp +decide only [sQ]; refine ⟨?_, hx⟩; rw [List.drop_length] at hall; simp [I1, hall, A0e]
def C8b (t : Tm) : Value := .agg #[vi t.x, vi t.y, vi t.z]
theorem A0j (lim : Nat) (t : Tm) (H : A1) (hl : lim ≤ H.next) : A5 Tryz.prog lim A5d [tv t] H fun v H' => v = C8b t ∧ Ext H H' := by
 refine A36.go rfl ?_; unfold a9; refine A0 ?_; simp only [sS, B8r]; have hB := J8.mk' H t; have hn1 : (H.alloc (tc t)).next = H.next + 1 := rfl; generalize H.alloc (tc t) = H1 at hB hn1 ⊢; have hx2 := Ext.alloc H1 [.int .i64 0, .int .i64 0, .int .i64 0]; have hB2 := hB.mono hx2; generalize hp : H.next = p at hB hB2 hn1 hl ⊢; refine A0 ?_; simp only [sS, Nat.zero_add, hB2.c1, hB2.c2, hB2.c3, D0t, L5 (lim := lim) (b := H1.next) (by omega) (A6 _ _)]; refine A3 ?_; simp +decide only [sQ, E9 (D3 _ _ _)]; exact ⟨rfl, Chg.ext hB2.ext (Chg.put _ _ _) (by omega)⟩
def B04 (n : Int) (t : Tm) (u : Nat) : Bool := (decide (u > 0) || !(decide (0 ≥ n) && decide (t.x > 0))) && (decide (u > 1) || !(decide (1 ≥ n) && decide (t.y > 0))) && (decide (u > 2) || !(decide (2 ≥ n) && decide (t.z > 0)))
def ex (t : Tm) (u : Nat) : Int := if u = 0 then t.x else if u = 1 then t.y else t.z
theorem C8k {n : Int} {t : Tm} {u : Nat} (h : u < 3) : B04 n t u = (!(decide ((u : Int) ≥ n) && decide (ex t u > 0)) && B04 n t (u + 1)) := by
 match u, h with
 | 0, _ => simp [B04, ex, Bool.and_assoc]
 | 1, _ => simp [B04, ex]
 | 2, _ => simp [B04, ex]
theorem C67 {t : Tm} {u : Nat} (h : u < 3) : R1 3 1 (C8b t) (.int .i64 u) = some (vi (ex t u)) := by
 match u, h with
 | 0, _ => rfl
 | 1, _ => rfl
 | 2, _ => rfl
def A2z (n : Int) : List Tm → Bool
 | [] => true
 | t :: l => B04 n t 0 && A2z n l
theorem B6l (lim : Nat) (s : Value) (p : List Tm) (n : Int) (H : A1) (hl : lim ≤ H.next) (hs : SlT H s p) (hn : p.length ≤ 1000000000) : A5 Tryz.prog lim A8u [s, .int .i64 n] H fun v H' => v = .bool (A2z n p) ∧ Ext H H' := by
 refine A7a.go rfl ?_; unfold A1e; refine A0 ?_; simp only [sS]; refine C7 (A0 ?_); simp only [sS, hs.lenV]; refine A7 ?_; refine B9 (fun k e' H' => ∃ (i : Nat) (x3 x4 x5 x9 x10 : Value), i + k = p.length ∧ A2z n p = A2z n (p.drop i) ∧ Ext H H' ∧ e' = [s, .int .i64 n, .bool false, x3, x4, x5, s, .int .i64 p.length, .int .i64 i, x9, x10]) p.length ⟨0, _, _, _, _, _, by omega, rfl, Ext.refl _, rfl⟩ ?_; rintro k e' H' ⟨i, x3, x4, x5, x9, x10, hik, hall, hx, rfl⟩; have hnx := hx.next; refine A9 ?_; simp only [sS]; refine C4.split (fun hlt => ?_) (fun hlt => ?_)
 ·have hlt' : i < p.length := by simpa using hlt
  obtain ⟨b1, o1, h1, hat⟩ := (hs.ext hx).at hlt'; rw [List.drop_eq_getElem_cons hlt', A2z] at hall; refine A2 ?_; simp +decide only [sQ]; refine A7 ?_; refine A0 ?_; simp only [sS, h1, hat.all, K8 (lim := lim) (H := H') (by omega)]; have hB := J8.mk' H' p[i]; generalize H'.alloc (tc p[i]) = H1 at hB ⊢; generalize H'.next = q at hB hnx ⊢; have hx1 := hx.trans hB.ext; have hnx1 := hx1.next; refine A0 ?_; simp only [sS, hB.all]; refine (A0j lim _ _ (by omega)).mono ?_; rintro _ H2 ⟨rfl, hx2⟩; simp only [sS]; refine A8 ?_; refine B9 (fun j2 e' H2' => H2' = H2 ∧ ∃ (u : Nat) (x4 x5 : Value), u + j2 = 3 ∧ B04 n p[i] 0 = B04 n p[i] u ∧ e' = [s, .int .i64 n, .bool false, .pointer (some ⟨q, 0, none⟩), x4, x5, s, .int .i64 p.length, .int .i64 i, C8b p[i], .int .i64 u]) 3 ⟨rfl, 0, _, _, by omega, rfl, rfl⟩ ?_; rintro j2 e' H2 ⟨rfl, u, x4, x5, huj, hfr, rfl⟩; refine A9 ?_; simp only [sS]; refine C4.split (fun hlt3 => ?_) (fun hlt3 => ?_)
  ·have hu : u < 3 := by simp at hlt3; omega
   rw [C8k hu] at hfr; refine A2 ?_; simp +decide only [sQ]; refine A7 ?_; refine A0 ?_; simp only [sS, C67 hu]; refine D0 (decide ((u : Int) ≥ n) && decide (ex p[i] u > 0)) ?_ (fun hg => ?_) (fun hg => ?_)
   ·cases h7 : decide ((u : Int) ≥ n)
    ·simp only [sS, h7]; simp
    ·simp only [sS, h7]; simp
   ·refine A0 ?_; simp only [sS]; refine A3 ?_; simp +decide only [sQ]; rw [hg, Bool.not_true, Bool.false_and] at hfr; rw [hfr, Bool.false_and] at hall; rw [hall]; exact ⟨rfl, hx1.trans hx2⟩
   ·refine A2 ?_; simp +decide only [sQ]; refine A4 ?_; simp only [sS, D6 (i := u) (by omega)]; simp +decide only [sQ]; rw [hg, Bool.not_false, Bool.true_and] at hfr; exact C6.mk (j2 - 1) (by omega) ⟨rfl, u + 1, _, _, by omega, hfr, rfl⟩
  ·have hu : u = 3 := by simp at hlt3; omega
   subst hu; refine B8 ?_; simp +decide only [sQ, reduceIte]; refine A4 ?_; simp only [sS, D6 (i := i) (by omega)]; simp +decide only [sQ]; have h3 : B04 n p[i] 3 = true := by simp [B04]
   rw [h3] at hfr; rw [hfr, Bool.true_and] at hall; exact C6.mk (k - 1) (by omega) ⟨i + 1, _, _, _, _, _, by omega, hall, hx1.trans hx2, rfl⟩
 ·have hge : i = p.length := by simp at hlt; omega
  subst hge; refine B8 ?_; simp +decide only [sQ, reduceIte]; refine A0 ?_; simp only [sS]; refine A3 ?_; simp +decide only [sQ]; rw [List.drop_length, A2z] at hall; rw [hall]; exact ⟨rfl, hx⟩
end Go.Proofs.YtmdeppkfboaepaaGreat
namespace Go.Proofs.YtmdeppkfboaepaaGreat
open Go.Ab
theorem B0i (k : Int) : ∀ (p : List Tm) (m : Int), decide (I3 k m p > 0) = (decide (m > 0) || p.any fun t => decide (pw t k > 0))
 | [], m => by simp [I3]
 | t :: l, m => by
   rw [I3, B0i k l, List.any_cons, ← Bool.or_assoc]
   congr 1
   by_cases h : m > pw t k
   ·rw [if_pos h]; by_cases h2 : m > 0
    ·simp [h2]
    ·have : ¬ pw t k > 0 := by omega
     simp [h2, this]
   ·rw [if_neg h]; by_cases h2 : pw t k > 0
    ·simp [h2]
    ·have : ¬ m > 0 := by omega
     simp [h2, this]
theorem C2k (n : Nat) : ∀ p : List Tm, A2z n p = ((decide (n > 0) || !p.any fun t => decide (t.x > 0)) && (decide (n > 1) || !p.any fun t => decide (t.y > 0)) && (decide (n > 2) || !p.any fun t => decide (t.z > 0)))
 | [] => by simp [A2z]
 | t :: l => by
   have e0 : decide ((0 : Int) ≥ (n : Int)) = !decide (n > 0) := by by_cases h : n > 0 <;> simp [h] <;> omega
   have e1 : decide ((1 : Int) ≥ (n : Int)) = !decide (n > 1) := by by_cases h : n > 1 <;> simp [h] <;> omega
   have e2 : decide ((2 : Int) ≥ (n : Int)) = !decide (n > 2) := by by_cases h : n > 2 <;> simp [h] <;> omega
   rw [A2z, C2k n l, B04, e0, e1, e2]; simp only [List.any_cons]; generalize decide (n > 0) = a; generalize decide (n > 1) = b; generalize decide (n > 2) = c; generalize decide (t.x > 0) = x; generalize decide (t.y > 0) = y; generalize decide (t.z > 0) = z; generalize (l.any fun t => decide (t.x > 0)) = u; generalize (l.any fun t => decide (t.y > 0)) = v; generalize (l.any fun t => decide (t.z > 0)) = w
   revert a b c x y z u v w
   decide
theorem A65 (n : Nat) (p : List Tm) : A2z n p = I9 n p := by
 rw [C2k, I9, B0i, B0i, B0i]; simp [pw]
theorem C2w (lim : Nat) (s : Value) (ss : List (List Tm)) (H : A1) (hl : lim ≤ H.next) (hs : l3 H s ss) (hn : ss.length ≤ 1000000) (hn2 : ∀ p ∈ ss, p.length ≤ 1000000) : A5 Tryz.prog lim B4n [s] H fun v H' => v = .bool (P7 ss) ∧ Ext H H' := by
 refine B22.go rfl ?_; unfold A4t; refine A0 ?_; simp only [sS]; refine C7 (A0 ?_); simp only [sS, hs.lenV]; refine A7 ?_; refine B9 (fun j e' H' => ∃ (i : Nat) (x : Value), i + j = ss.length ∧ B4d ss.length ss = B4d ss.length (ss.drop i) ∧ Ext H H' ∧ e' = [s, .bool false, x, s, .int .i64 ss.length, .int .i64 i]) ss.length ⟨0, _, by omega, rfl, Ext.refl _, rfl⟩ ?_; rintro j e' H' ⟨i, x, hik, hall, hx, rfl⟩; have hnx := hx.next; refine A9 ?_; simp only [sS]; refine C4.split (fun hlt => ?_) (fun hlt => ?_)
 ·have hlt' : i < ss.length := by simpa using hlt
  obtain ⟨b1, o1, s1, h1, h2, h3⟩ := (hs.ext hx).at hlt'; have hpl := hn2 _ (List.getElem_mem hlt'); rw [List.drop_eq_getElem_cons hlt', B4d] at hall; refine A2 ?_; simp +decide only [sQ]; refine A7 ?_; refine A0 ?_; simp only [sS, h1, h2]; refine S8 (!(I1 ss[i] && I9 ss.length ss[i])) (Ext H') ?_ (fun H2 hx2 hg => ?_) (fun H2 hx2 hg => ?_)
  ·simp only [sS]; refine (B1x lim _ _ _ (by omega) h3 (by omega)).mono ?_; rintro _ H2 ⟨rfl, hx2⟩; have hnx2 := hx2.next; cases hgp : I1 ss[i]
   ·simp only [sS]; simp [hx2]
   ·simp only [sS, hs.lenV]; refine (B6l lim _ _ _ _ (by omega) (h3.ext hx2) (by omega)).mono ?_; rintro _ H3 ⟨rfl, hx3⟩; simp only [sS, A65]; simp [hx2.trans hx3]
  ·refine A0 ?_; simp only [sS]; refine A3 ?_; simp +decide only [sQ]; simp only [Bool.not_eq_true'] at hg; refine ⟨?_, hx.trans hx2⟩; rw [hg, Bool.false_and] at hall; simp [P7, hall]
  ·refine A2 ?_; simp +decide only [sQ]; refine A4 ?_; simp only [sS, D6 (i := i) (by omega)]; simp +decide only [sQ]; simp only [Bool.not_eq_false'] at hg; rw [hg, Bool.true_and] at hall; exact C6.mk (j - 1) (by omega) ⟨i + 1, _, by omega, hall, hx.trans hx2, rfl⟩
 ·have hge : i = ss.length := by simp at hlt; omega
  subst hge; refine B8 ?_; simp +decide only [sQ, reduceIte]; refine A0 ?_; simp only [sS, hs.lenV]; refine (J7 _ _ _ _ _).eq ?_; simp only [sS]; refine A3 ?_; simp +decide only [sQ]; refine ⟨?_, hx⟩; rw [List.drop_length, B4d] at hall; simp only [P7, hall, Bool.true_and]
def sw (i k j : Nat) : Nat := if j = k then i else if j = i then k else j
end Go.Proofs.YtmdeppkfboaepaaGreat
namespace Go.Proofs.YtmdeppkfboaepaaGreat
open Go.Ab
theorem B5c (n : Int) : J5 (-n) = -J5 n := by
 unfold J5; rcases Int.lt_trichotomy n 0 with h | h | h
 ·rw [if_pos (by omega), if_neg (by omega), if_pos (by omega)]; omega
 ·subst h; simp
 ·rw [if_neg (by omega), if_pos (by omega), if_pos (by omega)]
theorem C89 (a b : Tm) : S0 b a = -S0 a b := by
 unfold S0; have e1 : b.x - a.x = -(a.x - b.x) := by omega
 have e2 : b.y - a.y = -(a.y - b.y) := by omega
 have e3 : b.z - a.z = -(a.z - b.z) := by omega
 rw [e1, e2, e3, B5c, B5c, B5c]; by_cases h1 : a.x = b.x
 ·by_cases h2 : a.y = b.y
  ·simp [h1, h2]
  ·have h2' : ¬ b.y = a.y := fun h => h2 h.symm
   simp [h1, h2, h2']
 ·have h1' : ¬ b.x = a.x := fun h => h1 h.symm
  simp [h1, h1']
def D3h (l : List Tm) : Prop := ∀ (i : Nat) (h : i + 1 < l.length), S0 (l[i]'(by omega)) l[i + 1] < 0
theorem D09 {lim : Nat} {H : A1} {b : Nat} {v x : Value} {l m : List Tm} (h : G8 H b v l) (hx : SlT H x m) (hl : lim ≤ b) (hn : l.length + m.length ≤ 1000000) :
 ∃ v' H' b', E4 lim H 4 32 v x = some (v', H') ∧ G8 H' b' v' (l ++ m) ∧ (b' = b ∨ H.next ≤ b') ∧ (l ++ m ≠ [] → b' < H'.next) ∧ Chg b H H' := by
 obtain ⟨v', H', b', h1, h2, h3, h4, h5⟩ := Vec.append h (lim := lim) hl hx (by decide) (bytes := 32) (by omega); have h2' : G8 H' b' v' (l ++ m) := by
  unfold G8; rw [List.length_append, A0u]; exact h2
 refine ⟨v', H', b', h1, h2', h3.imp id fun h => by omega, fun hne => (Vec.blk h2' (fun e => hne (List.length_eq_zero_iff.1 e))).elim fun _ h => h.2, h4⟩
theorem D4b {lim : Nat} {H : A1} {b : Nat} {v : Value} {l : List Tm} (h : G8 H b v l) (t : Tm) (hl : lim ≤ b) (hn : l.length ≤ 100000) :
 ∃ v' H' b', E4 lim (H.alloc (tc t)) 4 32 v (.slice (some ⟨H.next, 0, some 0⟩) 1 1) = some (v', H') ∧ G8 H' b' v' (l ++ [t]) ∧ (b' = b ∨ H.next ≤ b') ∧ b' < H'.next ∧ Chg b H H' := by
 obtain ⟨v', H', b', h1, h2, h3, h4, h5⟩ := D09 (G8.ext h (Ext.alloc H (tc t))) (D22 H t) hl (by simp; omega); exact ⟨v', H', b', h1, h2, h3.imp id fun h => Nat.le_trans (Nat.le_succ _) h, h4 (by simp), (Chg.of_ext (Ext.alloc _ _)).trans h5⟩
end Go.Proofs.YtmdeppkfboaepaaGreat
namespace Go.Proofs.YtmdeppkfboaepaaGreat
open Go.Ab
theorem J8.put0 {lim : Nat} {Hb H : A1} {q : Nat} {t : Tm} (h : J8 Hb H q t) (hl : lim ≤ q) (c : Int) : ∃ cs, C8 lim H 1 (.pointer (some ⟨q, 0, none⟩)) (.int .i64 c) = some (undef, H.put q cs) ∧ J8 Hb (H.put q cs) q { t with c := c } :=
 ⟨_, B93 .i64 c hl h.blk (by simp [tc]), Chg.ext h.ext (Chg.put _ _ _) h.ge, h.ge, h.lt, D3 _ _ _⟩
end Go.Proofs.YtmdeppkfboaepaaGreat
namespace Go.Ab
theorem N9 {P : Program} {lim : Nat} {Q : J6} {e : List Value} {H : A1} {a b : C1} (I : List Value → A1 → Prop) (h : awp P lim a (J6.seq I (fun _ _ _ => False)) e H) (h1 : ∀ e' H', I e' H' → awp P lim b Q e' H') : awp P lim (.seq a b) Q e H :=
 C9v I h h1
end Go.Ab
namespace Go.Proofs.YtmdeppkfboaepaaGreat
open Go.Ab
theorem C0k : ∀ {l : List Tm} {u : Option Tm}, A0e u l = true → (∀ t ∈ l, Z6 t = true ∧ t.c ≠ 0) ∧ D3h l
 | [], u, _ => ⟨by simp, by intro i h; simp at h⟩
 | t :: l, u, h => by
   simp only [A0e, Bool.and_eq_true, Bool.not_eq_true', decide_eq_false_iff_not] at h; obtain ⟨⟨⟨h1, h2⟩, h3⟩, h4⟩ := h; obtain ⟨g1, g2⟩ := C0k h4; refine ⟨?_, ?_⟩
   ·intro x hx; rcases List.mem_cons.1 hx with rfl | hx
    ·exact ⟨h1, h2⟩
    ·exact g1 x hx
   ·intro i hi; cases i with
    | zero =>
      match l, h4, hi with
      | v :: l, h4, _ =>
        simp only [A0e, Bool.and_eq_true, Bool.not_eq_true', decide_eq_false_iff_not] at h4; have := h4.1.2; simp only [List.getElem_cons_zero, List.getElem_cons_succ]; omega
    | succ i => exact g2 i (by simpa using hi)
theorem D4n (t : Tm) (u : Nat) (h : u < 3) : ex t u = pw t u := by
 match u, h with
 | 0, _ => rfl
 | 1, _ => rfl
 | 2, _ => rfl
end Go.Proofs.YtmdeppkfboaepaaGreat
namespace Go.Proofs.YtmdeppkfboaepaaGreat.Ints
open Go.Ab
abbrev vi (n : Int) : Value := .int .i64 n
abbrev SlI (H : A1) (s : Value) (l : List Int) : Prop := Sl H s l.length 1 (l.map vi)
theorem SlI.get {H : A1} {s : Value} {l : List Int} (h : SlI H s l) {i : Nat} (hi : i < l.length) : ∃ b o, F1 1 s (.int .i64 i) = some (.pointer (some ⟨b, o, none⟩)) ∧ b < H.next ∧ H.cell b o = some (.int .i64 l[i]) := by
 obtain ⟨b, o, h1, h2, h3⟩ := h.cell .i64 (i := i) (by omega) (by omega); exact ⟨b, o, h1, h2, h3.trans (by simp [hi])⟩
theorem L6 (lim : Nat) (a b c : Int) (H : A1) : A5 Tryz.prog lim B3t [.int .i64 a, .int .i64 b, .int .i64 c] H fun v H' => v = .bool (decide (b ≤ a) && decide (a ≤ c)) ∧ H' = H := by
 refine B02.go rfl ?_; unfold A55; refine A0 ?_; simp only [sS]; refine A0 ?_; by_cases h : a ≥ b
 ·simp only [sS, decide_eq_true h]; refine A3 ?_; simp +decide only [sQ]; simp [h]
 ·simp only [sS, decide_eq_false h]; refine A3 ?_; simp +decide only [sQ]; simp
theorem J7 (lim : Nat) (a b c : Int) (H : A1) : A5 Tryz.prog lim A78 [.int .i64 a, .int .i64 b, .int .i64 c] H fun v H' => v = .bool (decide (b ≤ a) && decide (a ≤ c)) ∧ H' = H := by
 refine A5h.go rfl ?_; unfold A2q; refine A0 ?_; simp only [sS]; refine A0 ?_; by_cases h : a ≥ b
 ·simp only [sS, decide_eq_true h]; refine A3 ?_; simp +decide only [sQ]; simp [h]
 ·simp only [sS, decide_eq_false h]; refine A3 ?_; simp +decide only [sQ]; simp
theorem C4a (lim : Nat) (s : Value) (l : List Int) (n : Int) (H : A1) (hs : SlI H s l) (hn : l.length ≤ 1000000000) :
 A5 Tryz.prog lim C1q [s, .int .i64 n] H fun v H' => v = .bool (l.any (· == n)) ∧ H' = H := by
 refine B9g.go rfl ?_; unfold B0s; refine A0 ?_; simp only [sS]; refine C7 (A0 ?_); simp only [sS, hs.lenV]; refine A7 ?_; refine B9 (fun k e' H' => H' = H ∧ ∃ (i : Nat) (x : Value), i + k = l.length ∧ (l.any (· == n)) = ((l.drop i).any (· == n)) ∧ e' = [s, .int .i64 n, .bool false, x, s, .int .i64 l.length, .int .i64 i]) l.length ⟨rfl, 0, _, by omega, by simp, rfl⟩ ?_; rintro k e' H' ⟨rfl, i, x, hik, hall, rfl⟩; refine A9 ?_; simp only [sS]; refine C4.split (fun hlt => ?_) (fun hlt => ?_)
 ·have hlt' : i < l.length := by simpa using hlt
  rw [List.drop_eq_getElem_cons hlt', List.any_cons] at hall; refine A2 ?_; simp +decide only [sQ]; refine A7 ?_; refine A0 ?_; obtain ⟨bb, o, h1, h2, h3⟩ := hs.get hlt'; simp only [sS, h1, h3]; refine E1 ?_; simp only [sS]; refine C4.split (fun hv => ?_) (fun hv => ?_)
  ·refine A0 ?_; simp only [sS]; refine A3 ?_; simp +decide only [sQ]; rw [hv, Bool.true_or] at hall; simp [hall]
  ·refine A2 ?_; simp +decide only [sQ]; refine A4 ?_; simp only [sS, D6 (i := i) (by omega)]; simp +decide only [sQ]; rw [hv, Bool.false_or] at hall; exact C6.mk (k - 1) (by omega) ⟨rfl, i + 1, _, by omega, hall, rfl⟩
 ·refine B8 ?_; simp +decide only [sQ, reduceIte]; have hge : l.length ≤ i := by simp at hlt; omega
  rw [List.drop_of_length_le hge] at hall; refine A0 ?_; simp only [sS]; refine A3 ?_; simp +decide only [sQ]; simp [hall]
theorem C86 (lim : Nat) (s : Value) (l : List Int) (n : Int) (H : A1) (hs : SlI H s l) (hn : l.length ≤ 1000000000) :
 A5 Tryz.prog lim A2u [s, .int .i64 n] H fun v H' => (∃ r : Int, v = .int .i64 r ∧ decide (r ≥ 0) = (l.any (· == n))) ∧ H' = H := by
 refine A1t.go rfl ?_; unfold T9; refine A0 ?_; simp only [sS]; refine C7 (A0 ?_); simp only [sS, hs.lenV]; refine A7 ?_; refine B9 (fun k e' H' => H' = H ∧ ∃ (i : Nat) (x : Value), i + k = l.length ∧ (l.any (· == n)) = ((l.drop i).any (· == n)) ∧ e' = [s, .int .i64 n, .int .i64 0, x, .int .i64 l.length, .int .i64 i]) l.length ⟨rfl, 0, _, by omega, by simp, rfl⟩ ?_; rintro k e' H' ⟨rfl, i, x, hik, hall, rfl⟩; refine A9 ?_; simp only [sS]; refine C4.split (fun hlt => ?_) (fun hlt => ?_)
 ·have hlt' : i < l.length := by simpa using hlt
  rw [List.drop_eq_getElem_cons hlt', List.any_cons] at hall; refine A2 ?_; simp +decide only [sQ]; refine A7 ?_; refine A0 ?_; simp only [sS]; refine E1 ?_; obtain ⟨bb, o, h1, h2, h3⟩ := hs.get hlt'; simp only [sS, h1, h3]; refine C4.split (fun hv => ?_) (fun hv => ?_)
  ·refine A0 ?_; simp only [sS]; refine A3 ?_; simp +decide only [sQ]; rw [Bool.beq_comm] at hv; simp only [beq_iff_eq] at hv; refine ⟨⟨_, rfl, ?_⟩, trivial⟩; rw [hall]; simp [hv]
  ·refine A2 ?_; simp +decide only [sQ]; refine A4 ?_; simp only [sS, D6 (i := i) (by omega)]; simp +decide only [sQ]; have : (l[i] == n) = false := by simp at hv ⊢; omega
   rw [this, Bool.false_or] at hall; exact C6.mk (k - 1) (by omega) ⟨rfl, i + 1, _, by omega, hall, rfl⟩
 ·refine B8 ?_; simp +decide only [sQ, reduceIte]; have hge : l.length ≤ i := by simp at hlt; omega
  rw [List.drop_of_length_le hge] at hall; refine A0 ?_; simp only [sS]; refine A3 ?_; simp +decide only [sQ]; refine ⟨⟨_, rfl, ?_⟩, trivial⟩; simp [hall]
theorem C2n (lim : Nat) (s : Value) (l : List Int) (n : Int) (H : A1) (hs : SlI H s l) (hn : l.length ≤ 1000000000) :
 A5 Tryz.prog lim A0n [s, .int .i64 n] H fun v H' => v = .bool (l.any (· == n)) ∧ H' = H := by
 refine r9.go rfl ?_; unfold R0; refine A0 ?_; simp only [sS]; refine A0 ?_; simp only [sS]; refine (C86 _ _ _ _ _ hs hn).mono ?_; rintro v H1 ⟨⟨r, rfl, hr⟩, rfl⟩; simp only [sS]; refine A3 ?_; simp +decide only [sQ]; simp only [hr, and_self]
abbrev C0 (H : A1) (b : Nat) (v : Value) (l : List Int) : Prop := Vec H b v l.length 1 (l.map vi)
theorem U0 (lim : Nat) (s : Value) (l : List Int) (H : A1) (hl : lim ≤ H.next) (hs : SlI H s l) (hn : l.length ≤ 1000000000) :
 A5 Tryz.prog lim C03 [s] H fun v H' => ∃ b, H.next ≤ b ∧ b < H'.next ∧ C0 H' b v l ∧ Ext H H' := by
 refine B81.go rfl ?_; unfold B1j; refine A0 ?_; simp only [sS]; refine A0 ?_; have h0 : Vec (H.alloc []) H.next (.slice (some ⟨H.next, 0, some 0⟩) 0 0) 0 1 [] := Vec.lit rfl; obtain ⟨v', H', b', h1, h2, h3, h4, h5⟩ := h0.append (lim := lim) hl (hs.keep (T8.alloc H [] (Nat.le_refl _)) (Nat.le_refl _)) (by decide) (bytes := 8) (by omega); simp only [sS, E0, C9, h1]; refine A3 ?_; simp +decide only [sQ]; have hx : Ext H H' := Chg.ext (Ext.alloc H []) h4 (Nat.le_refl _); refine ⟨b', by rcases h3 with rfl | ⟨rfl, _⟩ <;> simp [I5], ?_, by simpa using h2, hx⟩; rcases h3 with rfl | ⟨rfl, h6⟩
 ·exact Nat.lt_of_lt_of_le (Nat.lt_succ_self _) h4.next
 ·exact h6
end Go.Proofs.YtmdeppkfboaepaaGreat.Ints
namespace Go.Proofs.YtmdeppkfboaepaaGreat.Ints
open Go.Ab
theorem N3 (lim : Nat) (s : Value) (l : List Int) (H : A1) (hl : lim ≤ H.next) (hs : SlI H s l) (hn : l.length ≤ 1000000000) :
 A5 Tryz.prog lim A2k [s] H fun v H' => ∃ b, H.next ≤ b ∧ (b < H'.next ∨ v = .slice none 0 0) ∧ C0 H' b v l ∧ Ext H H' := by
 refine A1n.go rfl ?_; unfold U8; refine A0 ?_; simp only [sS]; refine A9 ?_; have hs2 := hs; obtain ⟨_, a, cap, rfl, hc, hc0, _⟩ := hs2; cases a with
 | none =>
   have := hc0 rfl; have hl0 : l = [] := List.length_eq_zero_iff.1 (by omega); subst hl0; simp only [sS]; refine C4.true_ (A0 ?_); simp only [sS]; refine A3 ?_; simp +decide only [sQ]; exact ⟨H.next, Nat.le_refl _, .inr trivial, Vec.nil _ _ _, Ext.refl _⟩
 | some ad =>
   simp only [sS]; refine C4.false_ (A2 ?_); simp +decide only [sQ]; refine A0 ?_; have h0 : Vec (H.alloc []) H.next (.slice (some ⟨H.next, 0, some 0⟩) 0 0) 0 1 [] := Vec.lit rfl; obtain ⟨v', H', b', h1, h2, h3, h4, h5⟩ := h0.append (lim := lim) hl (hs.keep (T8.alloc H [] (Nat.le_refl _)) (Nat.le_refl _)) (by decide) (bytes := 8) (by omega); simp only [sS, E0, C9, h1]; refine A3 ?_; simp +decide only [sQ]; have hx : Ext H H' := Chg.ext (Ext.alloc H []) h4 (Nat.le_refl _); refine ⟨b', by rcases h3 with rfl | ⟨rfl, _⟩ <;> simp [I5], .inl ?_, by simpa using h2, hx⟩; rcases h3 with rfl | ⟨rfl, h6⟩
   ·exact Nat.lt_of_lt_of_le (Nat.lt_succ_self _) h4.next
   ·exact h6
def L9 (m : Int) : List Int → List Int → Bool
 | x :: l, y :: h => ((decide (-m ≤ x) && decide (x ≤ m)) && (decide (-m ≤ y) && decide (y ≤ m)) && decide (x < y)) && L9 m l h
 | _, _ => true
def V4 : List Int → List Int → Bool
 | x :: l, y :: h => (x.tmod 2 != 0 || y.tmod 2 != 0) || V4 l h
 | _, _ => false
def G0 (k : Int) (low high : List Int) : Bool :=
 (decide (0 ≤ k) && decide (k ≤ 8)) && (decide (1 ≤ (low.length : Int)) && decide ((low.length : Int) ≤ 3)) && !((high.length : Int) != low.length) && L9 (8 * 2 ^ k.toNat) low high && ((k == 0) || V4 low high)
theorem O4 (lim : Nat) (k : Nat) (H : A1) (hk : k ≤ 60) : A5 Tryz.prog lim Y6 [.int .i64 k] H fun v H' => v = .int .i64 (2 ^ k) ∧ H' = H := by
 refine A4g.go rfl ?_; unfold A0z; refine A0 ?_; simp only [sS]; refine A0 ?_; have h1 : IntKind.u64.wrap (k : Int) = k := by simp [IntKind.wrap, IntKind.signed, IntKind.bits]; omega
 have h2 : ¬ ((k : Int) < 0) := by omega
 have h3 : IntKind.i64.wrap (1 * 2 ^ min (k : Int).toNat IntKind.i64.bits) = 2 ^ k := by
  have hb : IntKind.i64.bits = 64 := rfl; have : min (k : Int).toNat IntKind.i64.bits = k := by rw [hb]; omega
  rw [this, Int.one_mul]; have h5 := A6z hk; exact R3 (by omega) (by omega)
 simp only [sS, h1, if_neg h2, h3]; refine A3 ?_; simp +decide only [sQ]
def V6 (H : A1) (v : Value) (k : Int) (low high : List Int) : Prop := ∃ s t, v = .agg #[.int .i64 k, s, t] ∧ SlI H s low ∧ SlI H t high
theorem e8 (lim : Nat) (v : Value) (k : Int) (low high : List Int) (H : A1) (hl : lim ≤ H.next) (hv : V6 H v k low high) (hn : low.length ≤ 1000000000) (hn2 : high.length ≤ 1000000000) :
 A5 Tryz.prog lim B8e [v] H fun v H' => v = .bool (G0 k low high) ∧ Ext H H' := by
 obtain ⟨s, t, rfl, hs, ht⟩ := hv; refine B6v.go rfl ?_; unfold A77; refine A0 ?_; simp only [sS, M5, C2]; have hx : Ext H (H.alloc [.int .i64 k, s, t]) := Ext.alloc _ _; have hs' := hs.keep (T8.of_ext hx (Nat.le_refl _)) (Nat.le_refl _); have ht' := ht.keep (T8.of_ext hx (Nat.le_refl _)) (Nat.le_refl _); have c0 : (H.alloc [.int .i64 k, s, t]).cell H.next 0 = some (.int .i64 k) := A0q _ _ _; have c1 : (H.alloc [.int .i64 k, s, t]).cell H.next 1 = some s := A0q _ _ _; have c2 : (H.alloc [.int .i64 k, s, t]).cell H.next 2 = some t := A0q _ _ _; generalize H.alloc [.int .i64 k, s, t] = H1 at hx hs' ht' c0 c1 c2 ⊢; refine D7 (!((decide (0 ≤ k) && decide (k ≤ 8)) && (decide (1 ≤ (low.length : Int)) && decide ((low.length : Int) ≤ 3)) && !((high.length : Int) != low.length))) ?_ (fun h => ?_) (fun h => ?_)
 ·simp only [sS, c0, Nat.zero_add]; refine (L6 _ _ _ _ _).eq ?_; generalize (decide (0 ≤ k) && decide (k ≤ 8)) = A; cases A
  ·simp only [sS]; simp
  ·simp only [sS, c1, hs'.lenV, Nat.zero_add]; refine (L6 _ _ _ _ _).eq ?_; generalize (decide (1 ≤ (low.length : Int)) && decide ((low.length : Int) ≤ 3)) = B; cases B
   ·simp only [sS]; simp
   ·simp only [sS, c1, c2, hs'.lenV, ht'.lenV, Nat.zero_add]; simp
 ·refine A0 ?_; simp only [sS]; refine A3 ?_; simp +decide only [sQ]; simp only [Bool.not_eq_true'] at h; exact ⟨by simp only [G0, h, Bool.false_and], hx⟩
 ·simp only [Bool.not_eq_false'] at h; refine A2 ?_; simp +decide only [sQ]; have hh := h; simp only [Bool.and_eq_true, decide_eq_true_eq, Bool.not_eq_true', bne_eq_false_iff_eq] at hh; obtain ⟨⟨⟨hk0, hk8⟩, hl1, hl3⟩, hlen⟩ := hh; obtain ⟨kn, rfl⟩ : ∃ kn : Nat, k = kn := ⟨k.toNat, by omega⟩; have hlen' : high.length = low.length := by omega
  have hp := A6z (n := kn) (m := 8) (by omega); have hwm : IntKind.i64.wrap (8 * 2 ^ kn) = 8 * 2 ^ kn := R3 (by omega) (by omega); refine A0 ?_; simp only [sS, c0, Nat.zero_add]; refine (O4 _ _ _ (by omega)).eq ?_; simp only [sS, hwm]; refine A0 ?_; simp only [sS, c0, Nat.zero_add]; refine C7 (A0 ?_); simp only [sS, c1, hs'.lenV, Nat.zero_add]; have hM : (0 : Int) ≤ 8 * 2 ^ kn ∧ (8 : Int) * 2 ^ kn ≤ 2048 := by omega
  have hgood : G0 kn low high = (L9 (8 * 2 ^ kn) low high && (((kn : Int) == 0) || V4 low high)) := by simp only [G0, h, Bool.true_and, Int.toNat_natCast]
  generalize (8 : Int) * 2 ^ kn = M at hM hgood ⊢; refine A7 ?_; refine B9 (fun n e' H' => H' = H1 ∧ ∃ (i : Nat) (od : Bool) (x5 x6 x7 : Value), i + n = low.length ∧ (L9 M low high && (((kn : Int) == 0) || V4 low high)) = (L9 M (low.drop i) (high.drop i) && (od || V4 (low.drop i) (high.drop i))) ∧
   e' = [.agg #[.int .i64 kn, s, t], .pointer (some ⟨H.next, 0, none⟩), .bool false, .int .i64 M, .bool od, x5, x6, x7, s, .int .i64 low.length, .int .i64 i]) low.length ⟨rfl, 0, _, _, _, _, by omega, by simp, rfl⟩ ?_
  rintro n e' _ ⟨rfl, i, od, x5, x6, x7, hin, hall, rfl⟩; refine A9 ?_; simp only [sS]; refine C4.split (fun hlt => ?_) (fun hlt => ?_)
  ·have hlt' : i < low.length := by simpa using hlt
   have hlt2 : i < high.length := by omega
   rw [List.drop_eq_getElem_cons hlt', List.drop_eq_getElem_cons hlt2] at hall; simp only [L9, V4] at hall; refine A2 ?_; simp +decide only [sQ]; refine A7 ?_; obtain ⟨bb, o, h1, h2, h3⟩ := SlI.get hs' hlt'; obtain ⟨bb', o', h1', h2', h3'⟩ := SlI.get ht' hlt2; refine A0 ?_; simp only [sS, h1, h3]; refine A0 ?_; simp only [sS, c2, h1', h3', Nat.zero_add]; generalize low[i] = x at hall h3 ⊢; generalize high[i] = y at hall h3' ⊢; have hneg : IntKind.i64.wrap (0 - M) = -M := by rw [IntKind.wrap_i64]; omega
   refine D7 (!((decide (-M ≤ x) && decide (x ≤ M)) && (decide (-M ≤ y) && decide (y ≤ M)) && decide (x < y))) ?_ (fun hg => ?_) (fun hg => ?_)
   ·simp only [sS, hneg]; refine (L6 _ _ _ _ _).eq ?_; generalize (decide (-M ≤ x) && decide (x ≤ M)) = A; cases A
    ·simp only [sS]; simp
    ·simp only [sS, hneg]; refine (L6 _ _ _ _ _).eq ?_; generalize (decide (-M ≤ y) && decide (y ≤ M)) = B; cases B
     ·simp only [sS]; simp
     ·simp only [sS]; by_cases hxy : x < y
      ·simp [hxy]
      ·simp [hxy]; omega
   ·refine A0 ?_; simp only [sS]; refine A3 ?_; simp +decide only [sQ]; simp only [Bool.not_eq_true'] at hg; rw [hg, Bool.false_and, Bool.false_and] at hall; exact ⟨by rw [hgood, hall], hx⟩
   ·simp only [Bool.not_eq_false'] at hg; rw [hg, Bool.true_and] at hall; refine A2 ?_; simp +decide only [sQ]; refine B6c [.agg #[.int .i64 kn, s, t], .pointer (some ⟨H.next, 0, none⟩), .bool false, .int .i64 M, .bool (od || (x.tmod 2 != 0 || y.tmod 2 != 0)), .int .i64 i, .int .i64 x, .int .i64 y, s, .int .i64 low.length, .int .i64 i] ?_ ?_
    ·have e2 : ¬ ((2 : Int) = 0) := by decide
     cases od
     ·cases hxo : (x.tmod 2 != 0)
      ·simp only [sS, if_neg e2, hxo]; simp
      ·simp only [sS, if_neg e2, hxo]; simp
     ·simp only [sS]; simp
    ·simp +decide only [sQ]; refine A4 ?_; simp only [sS, D6 (i := i) (by omega)]; simp +decide only [sQ]; exact C6.mk (n - 1) (by omega) ⟨rfl, i + 1, _, _, _, _, by omega, by rw [hall]; simp only [Bool.or_assoc], rfl⟩
  ·have hge : low.length ≤ i := by simp at hlt; omega
   rw [List.drop_of_length_le hge, List.drop_of_length_le (by omega)] at hall; refine B8 ?_; simp +decide only [sQ, reduceIte]; refine A0 ?_; simp only [sS]; refine A3 ?_; simp +decide only [sQ]; refine ⟨?_, hx⟩; rw [hgood, hall]; simp [L9, V4]
structure T0 (H : A1) (p : Nat) (k : Int) (s t : Value) (low high : List Int) : Prop where
 blk : H.blk p = some [.int .i64 k, s, t]
 low : SlI H s low
 high : SlI H t high
theorem T0.c0 {H : A1} {p : Nat} {k : Int} {s t : Value} {low high : List Int} (h : T0 H p k s t low high) : H.cell p 0 = some (.int .i64 k) := B7 h.blk 0
theorem T0.c1 {H : A1} {p : Nat} {k : Int} {s t : Value} {low high : List Int} (h : T0 H p k s t low high) : H.cell p 1 = some s := B7 h.blk 1
theorem T0.c2 {H : A1} {p : Nat} {k : Int} {s t : Value} {low high : List Int} (h : T0 H p k s t low high) : H.cell p 2 = some t := B7 h.blk 2
theorem B67 (lim : Nat) {p : Nat} {k : Int} {s t : Value} {low high : List Int} {H : A1} (hb : T0 H p k s t low high) (hn : low.length ≤ 1000000000) (hn2 : high.length ≤ 1000000000) :
 A5 Tryz.prog lim C0u [.pointer (some ⟨p, 0, none⟩)] H fun v H' => v = .bool (G0 k low high) ∧ H' = H := by
 have c0 := hb.c0; have c1 := hb.c1; have c2 := hb.c2; have hs' := hb.low; have ht' := hb.high; refine B9a.go rfl ?_; unfold B0v; refine A0 ?_; simp only [sS]; refine D7 (!((decide (0 ≤ k) && decide (k ≤ 8)) && (decide (1 ≤ (low.length : Int)) && decide ((low.length : Int) ≤ 3)) && !((high.length : Int) != low.length))) ?_ (fun h => ?_) (fun h => ?_)
 ·simp only [sS, c0, Nat.zero_add]; refine (J7 _ _ _ _ _).eq ?_; generalize (decide (0 ≤ k) && decide (k ≤ 8)) = A; cases A
  ·simp only [sS]; simp
  ·simp only [sS, c1, hs'.lenV, Nat.zero_add]; refine (J7 _ _ _ _ _).eq ?_; generalize (decide (1 ≤ (low.length : Int)) && decide ((low.length : Int) ≤ 3)) = B; cases B
   ·simp only [sS]; simp
   ·simp only [sS, c1, c2, hs'.lenV, ht'.lenV, Nat.zero_add]; simp
 ·refine A0 ?_; simp only [sS]; refine A3 ?_; simp +decide only [sQ]; simp only [Bool.not_eq_true'] at h; exact ⟨by simp only [G0, h, Bool.false_and], trivial⟩
 ·simp only [Bool.not_eq_false'] at h; refine A2 ?_; simp +decide only [sQ]; have hh := h; simp only [Bool.and_eq_true, decide_eq_true_eq, Bool.not_eq_true', bne_eq_false_iff_eq] at hh; obtain ⟨⟨⟨hk0, hk8⟩, hl1, hl3⟩, hlen⟩ := hh; obtain ⟨kn, rfl⟩ : ∃ kn : Nat, k = kn := ⟨k.toNat, by omega⟩; have hlen' : high.length = low.length := by omega
  have hp := A6z (n := kn) (m := 8) (by omega); have hkm : IntKind.i64.wrap (8 * 2 ^ min (kn : Int).toNat IntKind.i64.bits) = 8 * 2 ^ kn := by
   have hb : IntKind.i64.bits = 64 := rfl; have : min (kn : Int).toNat IntKind.i64.bits = kn := by rw [hb]; omega
   rw [this]; exact R3 (by omega) (by omega)
  have hk0' : ¬ ((kn : Int) < 0) := by omega
  refine A0 ?_; simp only [sS, c0, Nat.zero_add, if_neg hk0', hkm]; refine C7 (A0 ?_); simp only [sS, c1, hs'.lenV, Nat.zero_add]; have hM : (0 : Int) ≤ 8 * 2 ^ kn ∧ (8 : Int) * 2 ^ kn ≤ 2048 := by omega
  have hgood : G0 kn low high = (L9 (8 * 2 ^ kn) low high && (((kn : Int) == 0) || V4 low high)) := by simp only [G0, h, Bool.true_and, Int.toNat_natCast]
  generalize (8 : Int) * 2 ^ kn = M at hM hgood ⊢; refine A7 ?_; refine B9 (fun n e' H' => H' = H ∧ ∃ (i : Nat) (od : Bool) (x4 x5 : Value), i + n = low.length ∧ (L9 M low high && (((kn : Int) == 0) || V4 low high)) = (L9 M (low.drop i) (high.drop i) && (od || V4 (low.drop i) (high.drop i))) ∧
   e' = [.pointer (some ⟨p, 0, none⟩), .bool false, .int .i64 M, .bool od, x4, x5, s, .int .i64 low.length, .int .i64 i]) low.length ⟨rfl, 0, _, _, _, by omega, by simp, rfl⟩ ?_
  rintro n e' _ ⟨rfl, i, od, x4, x5, hin, hall, rfl⟩; refine A9 ?_; simp only [sS]; refine C4.split (fun hlt => ?_) (fun hlt => ?_)
  ·have hlt' : i < low.length := by simpa using hlt
   have hlt2 : i < high.length := by omega
   rw [List.drop_eq_getElem_cons hlt', List.drop_eq_getElem_cons hlt2] at hall; simp only [L9, V4] at hall; refine A2 ?_; simp +decide only [sQ]; refine A7 ?_; obtain ⟨bb, o, h1, h2, h3⟩ := SlI.get hs' hlt'; obtain ⟨bb', o', h1', h2', h3'⟩ := SlI.get ht' hlt2; refine A0 ?_; simp only [sS, h1, h3]; generalize low[i] = x at hall h3 ⊢; generalize high[i] = y at hall h3' ⊢; have hneg : IntKind.i64.wrap (0 - M) = -M := by rw [IntKind.wrap_i64]; omega
   refine D7 (!((decide (-M ≤ x) && decide (x ≤ M)) && (decide (-M ≤ y) && decide (y ≤ M)) && decide (x < y))) ?_ (fun hg => ?_) (fun hg => ?_)
   ·simp only [sS, hneg]; refine (J7 _ _ _ _ _).eq ?_; cases hA : (decide (-M ≤ x) && decide (x ≤ M))
    ·simp only [sS]; simp
    ·simp only [Bool.and_eq_true, decide_eq_true_eq] at hA; have hx1 : IntKind.i64.wrap (x + 1) = x + 1 := by rw [IntKind.wrap_i64]; omega
     simp only [sS, c2, h1', h3', hx1, Nat.zero_add]; refine (J7 _ _ _ _ _).eq ?_; have hB : (decide (x + 1 ≤ y) && decide (y ≤ M)) = ((decide (-M ≤ y) && decide (y ≤ M)) && decide (x < y)) := by
      rw [Bool.eq_iff_iff]; simp only [Bool.and_eq_true, decide_eq_true_eq]; omega
     rw [hB]; simp only [Bool.true_and]; generalize ((decide (-M ≤ y) && decide (y ≤ M)) && decide (x < y)) = B; simp only [sS]; simp
   ·refine A0 ?_; simp only [sS]; refine A3 ?_; simp +decide only [sQ]; simp only [Bool.not_eq_true'] at hg; rw [hg, Bool.false_and, Bool.false_and] at hall; exact ⟨by rw [hgood, hall], trivial⟩
   ·simp only [Bool.not_eq_false'] at hg; rw [hg, Bool.true_and] at hall; refine A2 ?_; simp +decide only [sQ]; refine B6c [.pointer (some ⟨p, 0, none⟩), .bool false, .int .i64 M, .bool (od || (x.tmod 2 != 0 || y.tmod 2 != 0)), .int .i64 i, .int .i64 x, s, .int .i64 low.length, .int .i64 i] ?_ ?_
    ·have e2 : ¬ ((2 : Int) = 0) := by decide
     cases od
     ·cases hxo : (x.tmod 2 != 0)
      ·simp only [sS, if_neg e2, hxo, c2, h1', h3', Nat.zero_add]; simp
      ·simp only [sS, if_neg e2, hxo]; simp
     ·simp only [sS]; simp
    ·simp +decide only [sQ]; refine A4 ?_; simp only [sS, D6 (i := i) (by omega)]; simp +decide only [sQ]; exact C6.mk (n - 1) (by omega) ⟨rfl, i + 1, _, _, _, by omega, by rw [hall]; simp only [Bool.or_assoc], rfl⟩
  ·have hge : low.length ≤ i := by simp at hlt; omega
   rw [List.drop_of_length_le hge, List.drop_of_length_le (by omega)] at hall; refine B8 ?_; simp +decide only [sQ, reduceIte]; refine A0 ?_; simp only [sS]; refine A3 ?_; simp +decide only [sQ]; refine ⟨?_, trivial⟩; rw [hgood, hall]; simp [L9, V4]
theorem F7 {k : Int} {low high : List Int} (h : G0 k low high = true) : 0 ≤ k ∧ k ≤ 8 ∧ 1 ≤ low.length ∧ low.length ≤ 3 ∧ high.length = low.length ∧ (∀ x ∈ low, -2048 ≤ x ∧ x ≤ 2048) ∧ (∀ x ∈ high, -2048 ≤ x ∧ x ≤ 2048) := by
 simp only [G0, Bool.and_eq_true, decide_eq_true_eq, Bool.not_eq_true', bne_eq_false_iff_eq] at h; obtain ⟨⟨⟨⟨⟨h1, h2⟩, h3, h4⟩, h5⟩, h6⟩, _⟩ := h; have hp := A6z (n := k.toNat) (m := 8) (by omega); have key : ∀ (m : Int) (low high : List Int), m ≤ 2048 → high.length = low.length → L9 m low high = true → (∀ x ∈ low, -2048 ≤ x ∧ x ≤ 2048) ∧ (∀ x ∈ high, -2048 ≤ x ∧ x ≤ 2048) := by
  intro m low
  induction low with
  | nil =>
    intro high _ hl _; have : high = [] := List.length_eq_zero_iff.1 (by simpa using hl); subst this; simp
  | cons x l ih =>
    intro high hm hl hr
    match high, hl with
    | y :: h, hl =>
      simp only [L9, Bool.and_eq_true, decide_eq_true_eq] at hr; obtain ⟨⟨⟨⟨a1, a2⟩, a3, a4⟩, a5⟩, a6⟩ := hr; obtain ⟨i1, i2⟩ := ih h hm (by simpa using hl) a6; exact ⟨by intro z hz; rcases List.mem_cons.1 hz with rfl | hz; omega; exact i1 z hz, by intro z hz; rcases List.mem_cons.1 hz with rfl | hz; omega; exact i2 z hz⟩
 obtain ⟨k1, k2⟩ := key _ low high (by omega) (by omega) h6; exact ⟨h1, h2, by omega, by omega, by omega, k1, k2⟩
theorem C3j : C9 [.int .i64 0, .slice none 0 0, .slice none 0 0] [] = some [.int .i64 0, .slice none 0 0, .slice none 0 0] := rfl
end Go.Proofs.YtmdeppkfboaepaaGreat.Ints
