/- Parts of the proof of a statement of this seat: contracts of functions that the law calls, or the law's own row; no condition. -/
import Derived.Test.YtmdeppkfboaepaaGreatM4
set_option maxHeartbeats 8000000
set_option linter.unusedSimpArgs false
set_option linter.unusedVariables false
namespace Go.Proofs.YtmdeppkfboaepaaGreat
open Go.Ab
def nar (a : Ax) : Ax := ⟨a.lo, a.hi, if a.lo = a.hi then 0 else a.d⟩
def C17 : List Ax → Int
 | [] => 1
 | a :: xs => (if a.lo = a.hi then (fac a.d : Int) else 1) * C17 xs
def rr : List Ax → List Nat → List Nat
 | a :: xs, i :: is => (if a.lo = a.hi then 0 else i) :: rr xs is
 | _, _ => []
theorem C50 {d : Nat} (h : d ≤ 4) : 0 < fac d := by
 have : ∀ x : Fin 5, 0 < fac x.val := by decide
 exact this ⟨d, by omega⟩
theorem C3z : ∀ {xs : List Ax}, (∀ a ∈ xs, a.d ≤ 4) → 0 < C17 xs
 | [], _ => by decide
 | a :: xs, h => by
   have ih := C3z (xs := xs) fun b hb => h b (by simp [hb])
   have := C50 (h a (by simp)); rw [C17]; refine Int.mul_pos ?_ ih; split
   ·omega
   ·decide
theorem B9n : ∀ (xs : List Ax) (es is : List Nat), es.length = xs.length → is.length = xs.length → U1 xs es is = C17 xs * U1 (xs.map nar) es (rr xs is)
 | [], es, is, _, _ => by simp [U1, C17]
 | a :: xs, e :: es, i :: is, h1, h2 => by
   have ih := B9n xs es is (by simpa using h1) (by simpa using h2); rw [U1, ih, C17, List.map_cons, rr, U1]; have : bta a.d a.lo a.hi e i = (if a.lo = a.hi then (fac a.d : Int) else 1) * bta (nar a).d (nar a).lo (nar a).hi e (if a.lo = a.hi then 0 else i) := by
    unfold nar; by_cases h : a.lo = a.hi
    ·simp only [h, if_true]; rw [C26, C26]; simp [fac]
    ·simp only [h, if_false, Int.one_mul]
   rw [this]; simp only [Int.mul_assoc, Int.mul_left_comm]
 | a :: xs, [], is, h1, _ => by simp at h1
 | a :: xs, e :: es, [], _, h2 => by simp at h2
theorem S1 : ∀ {ms l : List Nat}, l ∈ C5 ms ↔ l.length = ms.length ∧ ∀ (s : Nat) (i m : Nat), l[s]? = some i → ms[s]? = some m → i ≤ m
 | [], l => by
   simp only [C5, List.mem_singleton]
   constructor
   ·rintro rfl; simp
   ·rintro ⟨h, _⟩; exact List.length_eq_zero_iff.1 h
 | m :: ms, l => by
   simp only [C5, List.mem_flatMap, List.mem_map, List.mem_range]
   constructor
   ·rintro ⟨n, hn, l', h', rfl⟩; obtain ⟨h1, h2⟩ := S1.1 h'; refine ⟨by simp [h1], fun s i k hi hk => ?_⟩; cases s with
    | zero => simp at hi hk; omega
    | succ s => exact h2 s i k (by simpa using hi) (by simpa using hk)
   ·rintro ⟨h1, h2⟩; cases l with
    | nil => simp at h1
    | cons n l =>
      refine ⟨n, by have := h2 0 n m rfl rfl; omega, l, S1.2 ⟨by simpa using h1, fun s i k hi hk => h2 (s + 1) i k (by simpa using hi) (by simpa using hk)⟩, rfl⟩
theorem C9t : ∀ {xs : List Ax} {is : List Nat}, is ∈ C5 (xs.map (·.d)) → rr xs is ∈ C5 ((xs.map nar).map (·.d))
 | [], is, h => by simp [C5] at h; subst h; simp [rr, C5]
 | a :: xs, is, h => by
   simp only [List.map_cons, C5, List.mem_flatMap, List.mem_map, List.mem_range] at h ⊢; obtain ⟨n, hn, l, hl, rfl⟩ := h; have ih := C9t (xs := xs) (is := l) hl; refine ⟨_, ?_, rr xs l, by simpa using ih, rfl⟩; unfold nar; by_cases h : a.lo = a.hi <;> simp [h] ; omega
theorem C95 : ∀ {xs : List Ax} {is : List Nat}, is ∈ C5 ((xs.map nar).map (·.d)) → is ∈ C5 (xs.map (·.d)) ∧ rr xs is = is
 | [], is, h => by simp [C5] at h; subst h; simp [rr, C5]
 | a :: xs, is, h => by
   simp only [List.map_cons, C5, List.mem_flatMap, List.mem_map, List.mem_range] at h ⊢; obtain ⟨n, hn, l, hl, rfl⟩ := h; have ih := C95 (xs := xs) (is := l) (by simpa using hl); unfold nar at hn; by_cases h : a.lo = a.hi
   ·simp [h] at hn; subst hn; exact ⟨⟨0, by omega, l, ih.1, rfl⟩, by simp [rr, h, ih.2]⟩
   ·simp [h] at hn; exact ⟨⟨n, by omega, l, ih.1, rfl⟩, by simp [rr, h, ih.2]⟩
def sg (l : List Int) : Int := if ∀ v ∈ l, 0 < v then 1 else if ∀ v ∈ l, v < 0 then -1 else 0
theorem C3b {l m : List Int} (M : Int) (hM : 0 < M) (h1 : ∀ v ∈ l, ∃ u ∈ m, v = M * u) (h2 : ∀ u ∈ m, ∃ v ∈ l, v = M * u) : sg l = sg m := by
 have hp : ∀ u : Int, 0 < M * u ↔ 0 < u := fun u => ⟨fun h => by
  rcases Int.lt_trichotomy u 0 with hu | hu | hu
  ·have := Int.mul_neg_of_pos_of_neg hM hu; omega
  ·subst hu; simp at h
  ·exact hu, fun h => Int.mul_pos hM h⟩
 have hn : ∀ u : Int, M * u < 0 ↔ u < 0 := fun u => ⟨fun h => by
  rcases Int.lt_trichotomy u 0 with hu | hu | hu
  ·exact hu
  ·subst hu; simp at h
  ·have := Int.mul_pos hM hu; omega, fun h => Int.mul_neg_of_pos_of_neg hM h⟩
 have e1 : (∀ v ∈ l, 0 < v) ↔ (∀ u ∈ m, 0 < u) := by
  constructor
  ·intro h u hu; obtain ⟨v, hv, rfl⟩ := h2 u hu; exact (hp u).1 (h _ hv)
  ·intro h v hv; obtain ⟨u, hu, rfl⟩ := h1 v hv; exact (hp u).2 (h _ hu)
 have e2 : (∀ v ∈ l, v < 0) ↔ (∀ u ∈ m, u < 0) := by
  constructor
  ·intro h u hu; obtain ⟨v, hv, rfl⟩ := h2 u hu; exact (hn u).1 (h _ hv)
  ·intro h v hv; obtain ⟨u, hu, rfl⟩ := h1 v hv; exact (hn u).2 (h _ hu)
 unfold sg; simp only [e1, e2]
def Q5 (cs : List (Int × List Nat)) (xs : List Ax) (is : List Nat) : Int := E8 (fun t => t.1 * U1 xs t.2 is) cs
theorem C3x {cs : List (Int × List Nat)} {xs : List Ax} {is : List Nat} (h : ∀ t ∈ cs, t.2.length = xs.length) (hi : is.length = xs.length) : Q5 cs xs is = C17 xs * Q5 cs (xs.map nar) (rr xs is) := by
 unfold Q5; rw [← A06]; refine I2 fun t ht => ?_
 rw [B9n xs t.2 is (h t ht) hi]; simp only [Int.mul_left_comm]
theorem D24 {cs : List (Int × List Nat)} {xs : List Ax} (h : ∀ t ∈ cs, t.2.length = xs.length) (hd : ∀ a ∈ xs, a.d ≤ 4) :
 sg ((C5 (xs.map (·.d))).map (Q5 cs xs)) = sg ((C5 ((xs.map nar).map (·.d))).map (Q5 cs (xs.map nar))) := by
 refine C3b (C17 xs) (C3z hd) (fun v hv => ?_) (fun u hu => ?_)
 ·obtain ⟨is, his, rfl⟩ := List.mem_map.1 hv; refine ⟨_, List.mem_map.2 ⟨rr xs is, C9t his, rfl⟩, C3x h ?_⟩; rw [P1 _ _ his, List.length_map]
 ·obtain ⟨is, his, rfl⟩ := List.mem_map.1 hu; obtain ⟨g1, g2⟩ := C95 his; refine ⟨_, List.mem_map.2 ⟨is, g1, rfl⟩, ?_⟩; rw [C3x h (by rw [P1 _ _ g1, List.length_map]), g2]
end Go.Proofs.YtmdeppkfboaepaaGreat
namespace Go.Proofs.YtmdeppkfboaepaaGreat
open Go.Ab
theorem C2t : ∀ n : Fin 5, ∀ i : Fin 4, wr ((wr ((chs n.val i.val : Int) * ((n.val : Int) - (i.val : Int)))).tdiv ((i.val : Int) + 1)) = (chs n.val (i.val + 1) : Int) := by decide +kernel
theorem B1y (lim n k : Nat) (H : A1) (hn : n ≤ 4) (hk : k ≤ 4) : A5 Tryz.prog lim B4v [.int .i64 n, .int .i64 k] H fun v H' => v = .int .i64 (chs n k : Int) ∧ H' = H := by
 refine B2o.go rfl ?_; unfold A40; refine A0 ?_; simp only [sS]; refine A0 ?_; simp only [sS]; refine C7 (A0 ?_); simp only [sS]; refine A7 ?_; have h0 : ((chs n 0 : Nat) : Int) = 1 := by cases n <;> rfl
 refine B9 (fun j e' H' => ∃ i : Nat, i + j = k ∧ H' = H ∧ e' = [.int .i64 n, .int .i64 k, .int .i64 0, .int .i64 (chs n i : Int), .int .i64 i]) k ⟨0, by omega, rfl, by rw [h0]; rfl⟩ ?_; rintro j e' H' ⟨i, hij, rfl, rfl⟩; refine A9 ?_; simp only [sS]; refine C4.split (fun hlt => ?_) (fun hlt => ?_)
 ·have hlt' : i < k := by simpa using hlt
  have hne : ¬ ((i : Int) + 1 = 0) := by omega
  have e1 : IntKind.i64.wrap ((n : Int) - (i : Int)) = (n : Int) - (i : Int) := E3 (by omega) (by omega); have e2 : IntKind.i64.wrap ((i : Int) + 1) = (i : Int) + 1 := E3 (by omega) (by omega); have e3 := C2t ⟨n, by omega⟩ ⟨i, by omega⟩; simp only [wr] at e3; refine A2 ?_; simp +decide only [sQ]; refine A8 ?_; refine A4 ?_; simp only [sS, e1, e2, hne, e3]; simp +decide only [sQ]; refine A4 ?_; simp only [sS, D6 (i := i) (by omega)]; simp +decide only [sQ]; exact C6.mk (j - 1) (by omega) ⟨i + 1, by omega, rfl, rfl⟩
 ·have hge : i = k := by simp at hlt; omega
  subst hge; refine B8 ?_; simp +decide only [sQ, reduceIte]; refine A0 ?_; simp only [sS]; refine A3 ?_; simp +decide only [sQ]
theorem B3f (lim : Nat) (a : Int) (n : Nat) (H : A1) (hn : n ≤ 1000000) : A5 Tryz.prog lim B6o [.int .i64 a, .int .i64 n] H fun v H' => v = .int .i64 (wr (a ^ n)) ∧ H' = H := by
 refine B4s.go rfl ?_; unfold A5r; refine A0 ?_; simp only [sS]; refine A0 ?_; simp only [sS]; refine A7 ?_; refine B9 (fun j e' H' => ∃ i : Nat, i + j = n ∧ H' = H ∧ e' = [.int .i64 a, .int .i64 j, .int .i64 0, .int .i64 (wr (a ^ i))]) n ⟨0, by omega, rfl, by rw [Int.pow_zero]; rfl⟩ ?_; rintro j e' H' ⟨i, hij, rfl, rfl⟩; refine A9 ?_; simp only [sS]; refine C4.split (fun hlt => ?_) (fun hlt => ?_)
 ·have hlt' : 0 < j := by simp at hlt; omega
  obtain ⟨j, rfl⟩ : ∃ j', j = j' + 1 := ⟨j - 1, by omega⟩; have e1 : IntKind.i64.wrap (((j + 1 : Nat) : Int) - 1) = (j : Int) := by rw [IntKind.wrap_i64]; omega
  have e2 : IntKind.i64.wrap (wr (a ^ i) * a) = wr (a ^ (i + 1)) := by rw [Int.pow_succ]; exact Y0 _ _
  refine A2 ?_; simp +decide only [sQ]; refine A8 ?_; refine A4 ?_; simp only [sS, e2]; simp +decide only [sQ]; refine A4 ?_; simp only [sS, e1]; simp +decide only [sQ]; exact C6.mk j (by omega) ⟨i + 1, by omega, rfl, rfl⟩
 ·have hge : j = 0 := by simp at hlt; omega
  subst hge; obtain rfl : i = n := by omega
  refine B8 ?_; simp +decide only [sQ, reduceIte]; refine A0 ?_; simp only [sS]; refine A3 ?_; simp +decide only [sQ]
theorem C5k (a : Int) : ∀ n : Nat, wr ((wr a) ^ n) = wr (a ^ n)
 | 0 => by rw [Int.pow_zero, Int.pow_zero]
 | n + 1 => by rw [Int.pow_succ, Int.pow_succ, A54, ← Y0, C5k a n, Y0]
theorem C1m (lim : Nat) (lo hi : Int) (e j : Nat) (H : A1) (he : e ≤ 4) (hj : j ≤ e) : A5 Tryz.prog lim B9k [.int .i64 lo, .int .i64 hi, .int .i64 e, .int .i64 j] H fun v H' => v = .int .i64 (wr (prt lo hi e j)) ∧ H' = H := by
 refine B7v.go rfl ?_; unfold A8r; have e1 : IntKind.i64.wrap ((e : Int) - (j : Int)) = ((e - j : Nat) : Int) := by rw [IntKind.wrap_i64]; omega
 have e2 : IntKind.i64.wrap ((chs e j : Int) * wr (lo ^ (e - j))) = wr ((chs e j : Int) * lo ^ (e - j)) := A54 _ _; have e3 : IntKind.i64.wrap (wr ((chs e j : Int) * lo ^ (e - j)) * wr (IntKind.i64.wrap (hi - lo) ^ j)) = wr (prt lo hi e j) := by
  rw [C5k]; exact B68 _ _
 refine A0 ?_; simp only [sS]; refine A0 ?_; simp only [sS]; refine (B1y lim e j H he (by omega)).eq ?_; simp only [sS, e1]; refine (B3f lim lo (e - j) H (by omega)).eq ?_; simp only [sS, e2]; refine (B3f lim (IntKind.i64.wrap (hi - lo)) j H (by omega)).eq ?_; simp only [sS, e3]; refine A3 ?_; simp +decide only [sQ]
theorem C8c (lim d : Nat) (H : A1) (hl : lim ≤ H.next) (hd : d ≤ 4) : A5 Tryz.prog lim B38 [.int .i64 d] H fun v H' => v = .int .i64 (fac d : Int) ∧ Ext H H' := by
 refine B14.go rfl ?_; unfold A4o; refine A0 ?_; simp only [sS]; have hv : Vec (H.alloc [.int .i64 1, .int .i64 1, .int .i64 2, .int .i64 3, .int .i64 12]) H.next (.slice (some ⟨H.next, 0, some 0⟩) 5 5) 5 1 [.int .i64 1, .int .i64 1, .int .i64 2, .int .i64 3, .int .i64 12] := Vec.lit rfl; obtain ⟨b, o, h1, h2, h3⟩ := hv.sl.cell .i64 (i := (d : Int)) (by omega) (by omega); have hx := Ext.alloc H [Value.int .i64 1, .int .i64 1, .int .i64 2, .int .i64 3, .int .i64 12]; have h4 : (H.alloc [Value.int .i64 1, .int .i64 1, .int .i64 2, .int .i64 3, .int .i64 12]).cell b o = some (.int .i64 (fac d : Int)) := by
  rw [h3]
  match d, hd with
  | 0, _ => rfl
  | 1, _ => rfl
  | 2, _ => rfl
  | 3, _ => rfl
  | 4, _ => rfl
 have hb : E0 H 5 [.int .i64 0, .int .i64 0, .int .i64 0, .int .i64 0, .int .i64 0] [(0, 1, .int .i64 1), (1, 1, .int .i64 1), (2, 1, .int .i64 2), (3, 1, .int .i64 3), (4, 1, .int .i64 12)] = some (.slice (some ⟨H.next, 0, some 0⟩) 5 5, H.alloc [.int .i64 1, .int .i64 1, .int .i64 2, .int .i64 3, .int .i64 12]) := rfl; refine A0 ?_; simp only [sS, hb, h1, h4]; refine A3 ?_; simp +decide only [sQ]; exact ⟨trivial, hx⟩
end Go.Proofs.YtmdeppkfboaepaaGreat
namespace Go.Proofs.YtmdeppkfboaepaaGreat
open Go.Ab Ints
theorem C7a (lim : Nat) (s : Value) (d0 d1 d2 i j k : Nat) (H : A1) (hs : SlI H s [(d0 : Int), (d1 : Int), (d2 : Int)]) (h1 : d1 ≤ 4) (h2 : d2 ≤ 4) (hi : i ≤ 4) (hj : j ≤ 4) (hk : k ≤ 4) :
 A5 Tryz.prog lim C3k [s, .int .i64 i, .int .i64 j, .int .i64 k] H fun v H' => v = .int .i64 (((i * (d1 + 1) + j) * (d2 + 1) + k : Nat) : Int) ∧ H' = H := by
 refine C02.go rfl ?_; unfold B3k; obtain ⟨b1, o1, u1, _, u2⟩ := hs.get (i := 1) (by simp); obtain ⟨b2, o2, w1, _, w2⟩ := hs.get (i := 2) (by simp); have u1' : F1 1 s (.int .i64 1) = some (.pointer (some ⟨b1, o1, none⟩)) := u1; have w1' : F1 1 s (.int .i64 2) = some (.pointer (some ⟨b2, o2, none⟩)) := w1; have m1 : i * (d1 + 1) ≤ 20 := Nat.mul_le_mul hi (show d1 + 1 ≤ 5 by omega); have m2 : (i * (d1 + 1) + j) * (d2 + 1) ≤ 120 := Nat.mul_le_mul (show i * (d1 + 1) + j ≤ 24 by omega) (show d2 + 1 ≤ 5 by omega); have e1 : IntKind.i64.wrap ((d1 : Int) + 1) = ((d1 + 1 : Nat) : Int) := J0 (n := d1 + 1) (by omega); have e2 : IntKind.i64.wrap ((i : Int) * ((d1 + 1 : Nat) : Int)) = ((i * (d1 + 1) : Nat) : Int) := J0 (n := i * (d1 + 1)) (by omega); have e3 : IntKind.i64.wrap (((i * (d1 + 1) : Nat) : Int) + (j : Int)) = ((i * (d1 + 1) + j : Nat) : Int) := J0 (n := i * (d1 + 1) + j) (by omega); have e4 : IntKind.i64.wrap ((d2 : Int) + 1) = ((d2 + 1 : Nat) : Int) := J0 (n := d2 + 1) (by omega); have e5 : IntKind.i64.wrap (((i * (d1 + 1) + j : Nat) : Int) * ((d2 + 1 : Nat) : Int)) = (((i * (d1 + 1) + j) * (d2 + 1) : Nat) : Int) := J0 (n := (i * (d1 + 1) + j) * (d2 + 1)) (by omega); have e6 : IntKind.i64.wrap ((((i * (d1 + 1) + j) * (d2 + 1) : Nat) : Int) + (k : Int)) = (((i * (d1 + 1) + j) * (d2 + 1) + k : Nat) : Int) := J0 (n := (i * (d1 + 1) + j) * (d2 + 1) + k) (by omega); simp only [List.getElem_cons_succ, List.getElem_cons_zero] at u2 w2; refine A0 ?_; simp only [sS]; refine A0 ?_; simp only [sS, u1', u2, w1', w2, e1, e2, e3, e4, e5, e6]; refine A3 ?_; simp +decide only [sQ]
theorem C9q : ∀ d : Fin 5, ∀ i : Fin 5, ∀ j : Fin 5, i.val ≤ d.val → j.val ≤ i.val → chs d.val j.val ≠ 0 ∧ wr ((chs i.val j.val : Int) * wr ((fac d.val : Int).tdiv (chs d.val j.val : Int))) = wgt d.val i.val j.val := by decide +kernel
def Q1 (d : Nat) (a : Nat → Int) (i : Nat) : Int := E8 (fun j => wgt d i j * a j) (List.range (i + 1))
theorem D1d (lim : Nat) (s : Value) (l : List Int) (d : Nat) (H : A1) (hl : lim ≤ H.next) (hs : SlI H s l) (hd : d ≤ 4) (hn : l.length = d + 1) :
 A5 Tryz.prog lim C13 [s] H fun v H' => ∃ c, H.next ≤ c ∧ C0 H' c v ((List.range (d + 1)).map fun i => wr (Q1 d (fun j => l.getD j 0) i)) ∧ Ext H H' := by
 refine B8x.go rfl ?_; unfold A94; have e0 : IntKind.i64.wrap ((l.length : Int) - 1) = (d : Int) := by rw [IntKind.wrap_i64]; omega
 refine A0 ?_; simp only [sS]; refine A0 ?_; simp only [sS, hs.lenV, e0]; refine A0 ?_; simp only [sS]; refine C7 (A0 ?_); simp only [sS, hs.lenV]; refine A7 ?_; refine B9 (fun k e' H' => ∃ (i b : Nat) (v x4 x5 x6 : Value), i + k = d + 1 ∧ C0 H' b v ((List.range i).map fun i => wr (Q1 d (fun j => l.getD j 0) i)) ∧ H.next ≤ b ∧ Ext H H' ∧ e' = [s, .slice none 0 0, .int .i64 d, v, x4, x5, x6, .int .i64 l.length, .int .i64 i]) (d + 1) ⟨0, H.next, _, _, _, _, by omega, Vec.nil _ _ _, Nat.le_refl _, Ext.refl _, rfl⟩ ?_; rintro k e' H1 ⟨i, b, v, x4, x5, x6, hik, hv, hb, hx, rfl⟩; have hn1 := hx.next; refine A9 ?_; simp only [sS]; refine C4.split (fun hlt => ?_) (fun hlt => ?_)
 ·have hlt' : i < d + 1 := by simp at hlt; omega
  refine A2 ?_; simp +decide only [sQ]; refine A8 ?_; refine A0 ?_; simp only [sS]; refine A0 ?_; simp only [sS]; refine C7 (A0 ?_); simp only [sS]; refine A7 ?_; refine B9 (fun m e' H' => ∃ j : Nat, j + m = i + 1 ∧ Ext H1 H' ∧ e' = [s, .slice none 0 0, .int .i64 d, v, .int .i64 i, .int .i64 (wr (E8 (fun j => wgt d i j * l.getD j 0) (List.range j))), .int .i64 j, .int .i64 l.length, .int .i64 i]) (i + 1) ⟨0, by omega, Ext.refl _, rfl⟩ ?_; rintro m e' H2 ⟨j, hjm, hx2, rfl⟩; have hn2 := hx2.next; refine A9 ?_; simp only [sS]; refine C4.split (fun hlt => ?_) (fun hlt => ?_)
  ·have hlj : j ≤ i := by simpa using hlt
   have hjl : j < l.length := by omega
   obtain ⟨c0, c1⟩ := C9q ⟨d, by omega⟩ ⟨i, by omega⟩ ⟨j, by omega⟩ (show i ≤ d by omega) hlj; simp only [wr] at c0 c1; have c0' : ¬ ((chs d j : Int) = 0) := by omega
   obtain ⟨b1, o1, u1, _, u2⟩ := SlI.get (show SlI H2 s l from hs.keep (T8.of_ext (hx.trans hx2) (Nat.le_refl _)) (Nat.le_refl _)) hjl; refine A2 ?_; simp +decide only [sQ]; refine A8 ?_; refine A4 ?_; simp only [sS, u1, u2]; refine (B1y _ i j H2 (by omega) (by omega)).eq ?_; simp only [sS]; refine (C8c _ d H2 (Nat.le_refl _) hd).mono ?_; rintro _ H3 ⟨rfl, hx3⟩; simp only [sS]; refine (B1y _ d j H3 (by omega) (by omega)).eq ?_; have e5 : IntKind.i64.wrap (wr (E8 (fun j => wgt d i j * l.getD j 0) (List.range j)) + IntKind.i64.wrap (wgt d i j * l[j])) = wr (E8 (fun j => wgt d i j * l.getD j 0) (List.range (j + 1))) := by
    rw [s8, show l.getD j 0 = l[j] from by simp [hjl]]; exact C1e _ _
   simp only [sS, c0', c1, e5]; simp +decide only [sQ]; refine A4 ?_; simp only [sS, D6 (i := j) (by omega)]; simp +decide only [sQ]; exact C6.mk (m - 1) (by omega) ⟨j + 1, by omega, hx2.trans hx3, rfl⟩
  ·have hge : j = i + 1 := by simp at hlt; omega
   subst hge; refine B8 ?_; simp +decide only [sQ, reduceIte]; have hv2 : C0 H2 b v ((List.range i).map fun i => wr (Q1 d (fun j => l.getD j 0) i)) := Vec.ext hv hx2; have hv2' := hv2; simp only [C0, List.length_map, List.length_range] at hv2'; obtain ⟨v', H6, b', e6, hv6, hb6', hlt6, c6, n6⟩ := n5 (lim := lim) (bytes := 8) hv2' (.int .i64 (wr (E8 (fun j => wgt d i j * l.getD j 0) (List.range (i + 1))))) (by omega) (by omega); have hbs := L7 H2 (.int .i64 0) (x := .int .i64 (wr (E8 (fun j => wgt d i j * l.getD j 0) (List.range (i + 1))))) rfl; refine A4 ?_; simp only [sS, hbs, e6]; simp +decide only [sQ]; refine A4 ?_; simp only [sS, D6 (i := i) (by omega)]; simp +decide only [sQ]; refine C6.mk (k - 1) (by omega) ⟨i + 1, b', v', _, _, _, by omega, ?_, by rcases hb6' with h | h <;> omega, Chg.ext (hx.trans hx2) c6 hb, rfl⟩; rw [List.range_succ, List.map_append, List.map_cons, List.map_nil]; show Vec H6 b' v' _ 1 _; rw [List.length_append, List.length_map, List.length_range, List.map_append]; exact hv6
 ·have hge : i = d + 1 := by simp at hlt; omega
  subst hge; refine B8 ?_; simp +decide only [sQ, reduceIte]; refine A0 ?_; simp only [sS]; refine A3 ?_; simp +decide only [sQ]; exact ⟨b, hb, hv, hx⟩
end Go.Proofs.YtmdeppkfboaepaaGreat
namespace Go.Proofs.YtmdeppkfboaepaaGreat
open Go.Ab Ints
theorem C0.at {H : A1} {b : Nat} {v : Value} {l : List Int} (h : C0 H b v l) {i : Nat} (hi : i < l.length) : F1 1 v (.int .i64 i) = some (.pointer (some ⟨b, i, none⟩)) ∧ H.cell b i = some (.int .i64 (l.getD i 0)) := by
 have hiad := Vec.iad h .i64 (i := i) (by omega); rw [Nat.mul_one] at hiad; refine ⟨hiad, Vec.cell h ?_⟩; rw [List.getElem?_map, List.getElem?_eq_getElem hi, show l.getD i 0 = l[i] from by simp [hi]]; rfl
theorem C0.put {lim : Nat} {H : A1} {b : Nat} {v : Value} {l : List Int} (h : C0 H b v l) (hl : lim ≤ b) {i : Nat} (hi : i < l.length) (x : Int) :
 ∃ cs, C8 lim H 1 (.pointer (some ⟨b, i, none⟩)) (.int .i64 x) = some (undef, H.put b cs) ∧ C0 (H.put b cs) b v (l.set i x) := by
 obtain ⟨cs, hst, hv'⟩ := Vec.put1 (lim := lim) h hl (i := i) (x := .int .i64 x) rfl (by omega); refine ⟨cs, hst, ?_⟩; show Vec _ b v (l.set i x).length 1 ((l.set i x).map vi); rw [List.length_set, List.map_set]; exact hv'
theorem C0.snoc {H : A1} {b : Nat} {v : Value} {l : List Int} {x : Int} (h : Vec H b v (l.length + 1) 1 (l.map vi ++ [vi x])) : C0 H b v (l ++ [x]) := by
 show Vec H b v (l ++ [x]).length 1 ((l ++ [x]).map vi); rw [List.length_append, List.map_append]; exact h
theorem U9 (l : List Int) (i k : Nat) (x : Int) (hi : i < l.length) : (l.set i x).getD k 0 = if k = i then x else l.getD k 0 := by
 rw [List.getD_eq_getElem?_getD, List.getD_eq_getElem?_getD, List.getElem?_set]; by_cases h : i = k
 ·subst h; simp [hi]
 ·rw [if_neg h, if_neg (fun e => h e.symm)]
def C1w (d : Nat) (A : List Int) (pl : List Nat) (A' : List Int) : Prop :=
 A'.length = A.length ∧ (∀ i, i < pl.length → A'.getD (pl.getD i 0) 0 = wr (Q1 d (fun j => A.getD (pl.getD j 0) 0) i)) ∧ ∀ x, x ∉ pl → A'.getD x 0 = A.getD x 0
theorem C1h (lim : Nat) (v s : Value) (A : List Int) (pl : List Nat) (b c0 d : Nat) (H : A1) (hl : lim ≤ b) (hlH : lim ≤ H.next) (hv : C0 H b v A) (hs0 : C0 H c0 s (pl.map fun (n : Nat) => (n : Int))) (hcb : c0 ≠ b) (hd : d ≤ 4) (hn : pl.length = d + 1) (hA : A.length ≤ 1000) (hp : ∀ x ∈ pl, x < A.length) (hnd : pl.Nodup) :
 A5 Tryz.prog lim B8w [v, s] H fun _ H' => ∃ A', C1w d A pl A' ∧ C0 H' b v A' ∧ Chg b H H' := by
 refine B7e.go rfl ?_; unfold A7v; have hs : SlI H s (pl.map fun (n : Nat) => (n : Int)) := Vec.sl hs0; have hbl : b < H.next := (Vec.blk hv (by
  intro e; have := hp (pl.getD 0 0) (by rw [show pl.getD 0 0 = pl[0]'(by omega) from by simp [show 0 < pl.length by omega]]; exact List.getElem_mem _); omega)).elim fun _ h => h.2
 have hlen : (pl.map fun (n : Nat) => (n : Int)).length = pl.length := by simp
 have hsl := hs.lenV; rw [hlen] at hsl; refine A0 ?_; simp only [sS]; refine C7 (A0 ?_); simp only [sS, hsl]; refine N9 (fun e' H' => ∃ (c : Nat) (ln x3 x4 x5 x6 x7 x8 : Value), C0 H' c ln (pl.map fun k => A.getD k 0) ∧ H.next ≤ c ∧ Ext H H' ∧ e' = [v, s, ln, x3, x4, x5, x6, x7, x8, undef, undef, undef]) ?_ ?_
 ·refine A8 ?_; refine B9 (fun k e' H' => ∃ (i c : Nat) (ln x3 x4 x5 : Value), i + k = pl.length ∧ C0 H' c ln ((pl.take i).map fun k => A.getD k 0) ∧ H.next ≤ c ∧ Ext H H' ∧ e' = [v, s, ln, x3, x4, x5, s, .int .i64 pl.length, .int .i64 i, undef, undef, undef]) pl.length ⟨0, H.next, _, _, _, _, by omega, Vec.nil _ _ _, Nat.le_refl _, Ext.refl _, rfl⟩ ?_; rintro k e' H1 ⟨i, c, ln, x3, x4, x5, hik, hln, hc, hx, rfl⟩; have hn1 := hx.next; refine A9 ?_; simp only [sS]; refine C4.split (fun hlt => ?_) (fun hlt => ?_)
  ·have hlt' : i < pl.length := by simpa using hlt
   obtain ⟨b1, o1, u1, _, u2⟩ := SlI.get (show SlI H1 s _ from hs.keep (T8.of_ext hx (Nat.le_refl _)) (Nat.le_refl _)) (show i < (pl.map fun (n : Nat) => (n : Int)).length by omega); rw [List.getElem_map] at u2; obtain ⟨w1, w2⟩ := C0.at (Vec.ext hv hx) (hp _ (List.getElem_mem hlt')); have hln' := hln; simp only [C0, List.length_map, List.length_take] at hln'; rw [Nat.min_eq_left (by omega)] at hln'; obtain ⟨v', H6, b', e6, hv6, hb6', hlt6, c6, n6⟩ := n5 (lim := lim) (bytes := 8) hln' (vi (A.getD pl[i] 0)) (by omega) (by omega); have hbs := L7 H1 (.int .i64 0) (x := vi (A.getD pl[i] 0)) rfl; refine A2 ?_; simp +decide only [sQ]; refine A8 ?_; refine A0 ?_; simp only [sS, u1, u2]; refine A4 ?_; simp only [sS, w1, w2, hbs, e6]; simp +decide only [sQ]; refine A4 ?_; simp only [sS, D6 (i := i) (by omega)]; simp +decide only [sQ]; refine C6.mk (k - 1) (by omega) ⟨i + 1, b', v', _, _, _, by omega, ?_, by rcases hb6' with h | h <;> omega, Chg.ext hx c6 hc, rfl⟩; rw [List.take_succ_eq_append_getElem hlt', List.map_append, List.map_cons, List.map_nil]; refine C0.snoc ?_; rw [List.length_map, List.length_take, Nat.min_eq_left (by omega)]; exact hv6
  ·have hge : i = pl.length := by simp at hlt; omega
   subst hge; refine B8 ?_; simp +decide only [sQ, reduceIte]; rw [List.take_length] at hln; exact ⟨c, ln, _, _, _, _, _, _, hln, hc, hx, rfl⟩
 ·rintro e' H1 ⟨c, ln, x3, x4, x5, x6, x7, x8, hln, hc, hx, rfl⟩; have hn1 := hx.next; refine A0 ?_; simp only [sS]; refine (D1d lim ln _ d H1 (by omega) (Vec.sl hln) hd (by simpa using hn)).mono ?_; rintro nw H2 ⟨c2, hc2, hnw, hx2⟩; have hn2 := hx2.next; have hx12 := hx.trans hx2; have hnwl := (Vec.sl hnw).lenV; simp only [List.length_map, List.length_range] at hnwl; simp only [sS, hnwl]; refine A8 ?_; refine B9 (fun k e' H' => ∃ (i : Nat) (B : List Int) (x4 x5 : Value), i + k = d + 1 ∧ B.length = A.length ∧ (∀ m, m < i → B.getD (pl.getD m 0) 0 = wr (Q1 d (fun j => A.getD (pl.getD j 0) 0) m)) ∧ (∀ x, x ∉ pl → B.getD x 0 = A.getD x 0) ∧ C0 H' b v B ∧ Chg b H2 H' ∧ e' = [v, s, ln, x3, x4, x5, x6, x7, x8, nw, .int .i64 (d + 1 : Nat), .int .i64 i]) (d + 1) ⟨0, A, _, _, by omega, rfl, by intro m hm; omega, fun _ _ => rfl, Vec.ext hv hx12, Chg.refl _ _, rfl⟩ ?_; rintro k e' H3 ⟨i, B, y4, y5, hik, hBl, hB1, hB2, hvB, hch, rfl⟩; have hn3 := hch.next; refine A9 ?_; simp only [sS]; refine C4.split (fun hlt => ?_) (fun hlt => ?_)
  ·have hlt' : i < d + 1 := by simp at hlt; omega
   have hpi : i < pl.length := by omega
   have hpA := hp _ (List.getElem_mem hpi); have hgd : pl.getD i 0 = pl[i] := by simp [hpi]
   obtain ⟨w1, w2⟩ := C0.at (Vec.chg hnw hch (by omega)) (i := i) (by simp; omega); obtain ⟨u1, u2⟩ := C0.at (Vec.chg (Vec.ext hs0 hx12) hch hcb) (i := i) (by simp; omega); have e1 : ((List.range (d + 1)).map fun i => wr (Q1 d (fun j => (pl.map fun k => A.getD k 0).getD j 0) i)).getD i 0 = wr (Q1 d (fun j => A.getD (pl.getD j 0) 0) i) := by
    have h1 : ((List.range (d + 1)).map fun i => wr (Q1 d (fun j => (pl.map fun k => A.getD k 0).getD j 0) i)).getD i 0 = wr (Q1 d (fun j => (pl.map fun k => A.getD k 0).getD j 0) i) := by simp [hlt']
    rw [h1]
    congr 1
    unfold Q1; refine I2 fun j hj => ?_
    have hj' := List.mem_range.1 hj; have : (pl.map fun k => A.getD k 0).getD j 0 = A.getD (pl.getD j 0) 0 := by simp [show j < pl.length by omega]
    exact congrArg (wgt d i j * ·) this
   have e2 : (pl.map fun (n : Nat) => (n : Int)).getD i 0 = ((pl[i] : Nat) : Int) := by simp [hpi]
   rw [e1] at w2; rw [e2] at u2; obtain ⟨q1, _⟩ := C0.at hvB (i := pl[i]) (by omega); obtain ⟨cs, hst, hv'⟩ := C0.put (lim := lim) hvB hl (i := pl[i]) (by omega) (wr (Q1 d (fun j => A.getD (pl.getD j 0) 0) i)); refine A2 ?_; simp +decide only [sQ]; refine A8 ?_; refine A0 ?_; simp only [sS, w1, w2]; refine A4 ?_; simp only [sS, u1, u2, q1, hst]; simp +decide only [sQ]; refine A4 ?_; simp only [sS, D6 (i := i) (by omega)]; simp +decide only [sQ]; refine C6.mk (k - 1) (by omega) ⟨i + 1, _, _, _, by omega, by rw [List.length_set]; exact hBl, ?_, ?_, hv', hch.trans (Chg.put _ _ _), rfl⟩
   ·intro m hm; rw [U9 _ _ _ _ (by omega)]; by_cases hmi : m = i
    ·subst hmi; rw [if_pos hgd]
    ·have hne : pl.getD m 0 ≠ pl[i] := by
      have hml : m < pl.length := by omega
      rw [show pl.getD m 0 = pl[m] from by simp [hml]]; intro e; exact hmi ((List.getElem_inj hnd).1 e)
     rw [if_neg hne]; exact hB1 m (by omega)
   ·intro x hx; rw [U9 _ _ _ _ (by omega), if_neg (fun e => hx (by rw [e]; exact List.getElem_mem hpi))]; exact hB2 x hx
  ·have hge : i = d + 1 := by simp at hlt; omega
   subst hge; refine B8 ?_; simp +decide only [sQ, reduceIte]; exact ⟨B, ⟨hBl, fun i hi => hB1 i (by omega), hB2⟩, hvB, (Chg.of_ext hx12).trans hch⟩
end Go.Proofs.YtmdeppkfboaepaaGreat
namespace Go.Proofs.YtmdeppkfboaepaaGreat
open Go.Ab Ints
theorem D2e {m a b a' b' : Nat} (hb : b < m) (hb' : b' < m) (h : a * m + b = a' * m + b') : a = a' ∧ b = b' := by
 have h1 : (a * m + b) % m = b := by rw [Nat.mul_comm, Nat.mul_add_mod, Nat.mod_eq_of_lt hb]
 have h2 : (a' * m + b') % m = b' := by rw [Nat.mul_comm, Nat.mul_add_mod, Nat.mod_eq_of_lt hb']
 have h3 : b = b' := by rw [← h1, ← h2, h]
 subst h3; have h4 : a * m = a' * m := by omega
 exact ⟨Nat.eq_of_mul_eq_mul_right (by omega) h4, rfl⟩
def gp (d1 d2 x y z : Nat) : Nat := (x * (d1 + 1) + y) * (d2 + 1) + z
theorem A9j {d1 d2 x y z x' y' z' : Nat} (hy : y ≤ d1) (hz : z ≤ d2) (hy' : y' ≤ d1) (hz' : z' ≤ d2) (h : gp d1 d2 x y z = gp d1 d2 x' y' z') : x = x' ∧ y = y' ∧ z = z' := by
 unfold gp at h; obtain ⟨h1, h2⟩ := D2e (by omega) (by omega) h; obtain ⟨h3, h4⟩ := D2e (by omega) (by omega) h1; exact ⟨h3, h4, h2⟩
theorem B9t {d0 d1 d2 x y z : Nat} (hx : x ≤ d0) (hy : y ≤ d1) (hz : z ≤ d2) : gp d1 d2 x y z < (d0 + 1) * (d1 + 1) * (d2 + 1) := by
 unfold gp; have h1 : x * (d1 + 1) + y + 1 ≤ (d0 + 1) * (d1 + 1) := by
  have := Nat.mul_le_mul_right (d1 + 1) hx; rw [Nat.succ_mul]; omega
 have h2 := Nat.mul_le_mul_right (d2 + 1) h1; rw [Nat.succ_mul] at h2; omega
theorem B09 {α : Type} (f : α → Int) : ∀ l : List α, wr (E8 (fun a => wr (f a)) l) = wr (E8 f l)
 | [] => rfl
 | a :: l => by rw [E8, E8, B6q, ← B7c, B09 f l, B7c]
theorem C1x (d : Nat) (f : Nat → Int) (i : Nat) : wr (Q1 d (fun j => wr (f j)) i) = wr (Q1 d f i) := by
 unfold Q1; rw [← B09, ← B09 (fun j => wgt d i j * f j)]
 congr 1
 exact I2 fun j _ => A54 _ _
theorem A9e {d : Nat} {f g : Nat → Int} {i : Nat} (h : ∀ j, j ≤ i → f j = g j) : Q1 d f i = Q1 d g i := by
 unfold Q1; exact I2 fun j hj => by rw [h j (by have := List.mem_range.1 hj; omega)]
def IsG (d0 d1 d2 : Nat) (A : List Int) (f : Nat → Nat → Nat → Int) : Prop :=
 A.length = (d0 + 1) * (d1 + 1) * (d2 + 1) ∧ ∀ x y z, x ≤ d0 → y ≤ d1 → z ≤ d2 → A.getD (gp d1 d2 x y z) 0 = wr (f x y z)
theorem IsG.congr {d0 d1 d2 : Nat} {A : List Int} {f g : Nat → Nat → Nat → Int} (h : IsG d0 d1 d2 A f) (hfg : ∀ x y z, x ≤ d0 → y ≤ d1 → z ≤ d2 → f x y z = g x y z) : IsG d0 d1 d2 A g :=
 ⟨h.1, fun x y z hx hy hz => by rw [h.2 x y z hx hy hz, hfg x y z hx hy hz]⟩
def lnZ (d1 d2 i j : Nat) : List Nat := (List.range (d2 + 1)).map fun l => gp d1 d2 i j l
def lnY (d1 d2 i l : Nat) : List Nat := (List.range (d1 + 1)).map fun j => gp d1 d2 i j l
def lnX (d0 d1 d2 j l : Nat) : List Nat := (List.range (d0 + 1)).map fun i => gp d1 d2 i j l
theorem P0 (g : Nat → Nat) (n i : Nat) (h : i < n) : ((List.range n).map g).getD i 0 = g i := by simp [h]
theorem IsG.turnZ {d0 d1 d2 i j : Nat} {A A' : List Int} {f : Nat → Nat → Nat → Int} (h : IsG d0 d1 d2 A f) (hi : i ≤ d0) (hj : j ≤ d1) (ht : C1w d2 A (lnZ d1 d2 i j) A') :
 IsG d0 d1 d2 A' fun x y z => if x = i ∧ y = j then Q1 d2 (f x y) z else f x y z := by
 obtain ⟨t1, t2, t3⟩ := ht; refine ⟨t1.trans h.1, fun x y z hx hy hz => ?_⟩; by_cases hc : x = i ∧ y = j
 ·obtain ⟨rfl, rfl⟩ := hc; simp only [and_self, if_true]; have := t2 z (by simp [lnZ]; omega); rw [lnZ, P0 _ _ _ (by omega)] at this; rw [this, ← C1x d2 (f x y)]
  congr 1
  refine A9e fun l hl => ?_
  rw [P0 _ _ _ (by omega)]; exact h.2 x y l hx hy (by omega)
 ·simp only [hc, if_false]; rw [t3, h.2 x y z hx hy hz]; intro hm; obtain ⟨l, hl, he⟩ := List.mem_map.1 hm; have hl' := List.mem_range.1 hl; obtain ⟨e1, e2, _⟩ := A9j hj (by omega) hy hz he; exact hc ⟨e1.symm, e2.symm⟩
theorem IsG.turnY {d0 d1 d2 i l : Nat} {A A' : List Int} {f : Nat → Nat → Nat → Int} (h : IsG d0 d1 d2 A f) (hi : i ≤ d0) (hl : l ≤ d2) (ht : C1w d1 A (lnY d1 d2 i l) A') :
 IsG d0 d1 d2 A' fun x y z => if x = i ∧ z = l then Q1 d1 (fun y => f x y z) y else f x y z := by
 obtain ⟨t1, t2, t3⟩ := ht; refine ⟨t1.trans h.1, fun x y z hx hy hz => ?_⟩; by_cases hc : x = i ∧ z = l
 ·obtain ⟨rfl, rfl⟩ := hc; simp only [and_self, if_true]; have := t2 y (by simp [lnY]; omega); rw [lnY, P0 _ _ _ (by omega)] at this; rw [this, ← C1x d1 (fun y => f x y z)]
  congr 1
  refine A9e fun j hj => ?_
  rw [P0 _ _ _ (by omega)]; exact h.2 x j z hx (by omega) hz
 ·simp only [hc, if_false]; rw [t3, h.2 x y z hx hy hz]; intro hm; obtain ⟨j, hj, he⟩ := List.mem_map.1 hm; have hj' := List.mem_range.1 hj; obtain ⟨e1, _, e2⟩ := A9j (by omega) hl hy hz he; exact hc ⟨e1.symm, e2.symm⟩
theorem IsG.turnX {d0 d1 d2 j l : Nat} {A A' : List Int} {f : Nat → Nat → Nat → Int} (h : IsG d0 d1 d2 A f) (hj : j ≤ d1) (hl : l ≤ d2) (ht : C1w d0 A (lnX d0 d1 d2 j l) A') :
 IsG d0 d1 d2 A' fun x y z => if y = j ∧ z = l then Q1 d0 (fun x => f x y z) x else f x y z := by
 obtain ⟨t1, t2, t3⟩ := ht; refine ⟨t1.trans h.1, fun x y z hx hy hz => ?_⟩; by_cases hc : y = j ∧ z = l
 ·obtain ⟨rfl, rfl⟩ := hc; simp only [and_self, if_true]; have := t2 x (by simp [lnX]; omega); rw [lnX, P0 _ _ _ (by omega)] at this; rw [this, ← C1x d0 (fun x => f x y z)]
  congr 1
  refine A9e fun i hi => ?_
  rw [P0 _ _ _ (by omega)]; exact h.2 i y z (by omega) hy hz
 ·simp only [hc, if_false]; rw [t3, h.2 x y z hx hy hz]; intro hm; obtain ⟨i, hi, he⟩ := List.mem_map.1 hm; obtain ⟨_, e1, e2⟩ := A9j hj hl hy hz he; exact hc ⟨e1.symm, e2.symm⟩
theorem B63 {d0 d1 d2 : Nat} : (∀ i j, i ≤ d0 → j ≤ d1 → (lnZ d1 d2 i j).Nodup ∧ ∀ x ∈ lnZ d1 d2 i j, x < (d0 + 1) * (d1 + 1) * (d2 + 1)) ∧ (∀ i l, i ≤ d0 → l ≤ d2 → (lnY d1 d2 i l).Nodup ∧ ∀ x ∈ lnY d1 d2 i l, x < (d0 + 1) * (d1 + 1) * (d2 + 1)) ∧ (∀ j l, j ≤ d1 → l ≤ d2 → (lnX d0 d1 d2 j l).Nodup ∧ ∀ x ∈ lnX d0 d1 d2 j l, x < (d0 + 1) * (d1 + 1) * (d2 + 1)) := by
 have nd : ∀ (g : Nat → Nat) (n : Nat), (∀ a b, a < n → b < n → g a = g b → a = b) → ((List.range n).map g).Nodup := by
  intro g n hg; unfold List.Nodup; rw [List.pairwise_map]; refine List.Pairwise.imp_of_mem ?_ (List.nodup_range (n := n)); intro a b ha hb hne e; exact hne (hg a b (List.mem_range.1 ha) (List.mem_range.1 hb) e)
 refine ⟨fun i j hi hj => ⟨nd _ _ fun a b ha hb e => (A9j hj (by omega) hj (by omega) e).2.2, fun x hx => ?_⟩, fun i l hi hl => ⟨nd _ _ fun a b ha hb e => (A9j (by omega) hl (by omega) hl e).2.1, fun x hx => ?_⟩, fun j l hj hl => ⟨nd _ _ fun a b ha hb e => (A9j hj hl hj hl e).1, fun x hx => ?_⟩⟩
 ·obtain ⟨a, ha, rfl⟩ := List.mem_map.1 hx; exact B9t hi hj (by have := List.mem_range.1 ha; omega)
 ·obtain ⟨a, ha, rfl⟩ := List.mem_map.1 hx; exact B9t hi (by have := List.mem_range.1 ha; omega) hl
 ·obtain ⟨a, ha, rfl⟩ := List.mem_map.1 hx; exact B9t (by have := List.mem_range.1 ha; omega) hj hl
def C2u (d0 d1 d2 : Nat) (f : Nat → Nat → Nat → Int) (x y z : Nat) : Int := Q1 d0 (fun x' => Q1 d1 (fun y' => Q1 d2 (f x' y') z) y) x
theorem C8x : ∀ i : Fin 5, ∀ j : Fin 5, i.val < j.val → chs i.val j.val = 0 := by decide
theorem B69 {d i : Nat} (c lo hi : Int) (e : Nat) (hd : d ≤ 4) (hi' : i ≤ d) : Q1 d (fun j => c * prt lo hi e j) i = c * bta d lo hi e i := by
 unfold Q1 bta; rw [← A06]; have key : ∀ n, i + n ≤ d → E8 (fun j => wgt d i j * (c * prt lo hi e j)) (List.range (i + 1)) = E8 (fun j => c * (wgt d i j * prt lo hi e j)) (List.range (i + n + 1)) := by
  intro n
  induction n with
  | zero => intro _; exact I2 fun j _ => Int.mul_left_comm _ _ _
  | succ n ih =>
    intro hn; rw [ih (by omega), show i + (n + 1) + 1 = (i + n + 1) + 1 from rfl, s8 _ (i + n + 1)]; have h0 : wgt d i (i + n + 1) = 0 := by
     unfold wgt; rw [C8x ⟨i, by omega⟩ ⟨i + n + 1, by omega⟩ (by show i < i + n + 1; omega)]; simp
    rw [h0]; simp
 have := key (d - i) (by omega); rw [show i + (d - i) + 1 = d + 1 by omega] at this; exact this
theorem B1w {α : Type} (d i : Nat) (F : α → Nat → Int) (l : List α) : Q1 d (fun j => E8 (fun t => F t j) l) i = E8 (fun t => Q1 d (F t) i) l := by
 unfold Q1; rw [B1z (fun t j => wgt d i j * F t j)]; exact I2 fun j _ => (A06 _ _ _).symm
def A1z (cs : List (Int × List Nat)) (a b c : Ax) (x y z : Nat) : Int := E8 (fun t => t.1 * prt a.lo a.hi (t.2.getD 0 0) x * prt b.lo b.hi (t.2.getD 1 0) y * prt c.lo c.hi (t.2.getD 2 0) z) cs
theorem C7x {cs : List (Int × List Nat)} {a b c : Ax} {x y z : Nat} (hcs : ∀ t ∈ cs, t.2.length = 3) (ha : a.d ≤ 4) (hb : b.d ≤ 4) (hc : c.d ≤ 4) (hx : x ≤ a.d) (hy : y ≤ b.d) (hz : z ≤ c.d) :
 C2u a.d b.d c.d (A1z cs a b c) x y z = Q5 cs [a, b, c] [x, y, z] := by
 unfold C2u A1z Q5; have e1 : ∀ x' y', Q1 c.d (fun z => E8 (fun t : Int × List Nat => t.1 * prt a.lo a.hi (t.2.getD 0 0) x' * prt b.lo b.hi (t.2.getD 1 0) y' * prt c.lo c.hi (t.2.getD 2 0) z) cs) z = E8 (fun t : Int × List Nat => (t.1 * prt a.lo a.hi (t.2.getD 0 0) x' * bta c.d c.lo c.hi (t.2.getD 2 0) z) * prt b.lo b.hi (t.2.getD 1 0) y') cs := by
  intro x' y'; rw [B1w]; refine I2 fun t _ => ?_
  rw [B69 _ _ _ _ hc hz]; simp only [Int.mul_assoc, Int.mul_comm, Int.mul_left_comm]
 have e2 : ∀ x', Q1 b.d (fun y' => E8 (fun t : Int × List Nat => (t.1 * prt a.lo a.hi (t.2.getD 0 0) x' * bta c.d c.lo c.hi (t.2.getD 2 0) z) * prt b.lo b.hi (t.2.getD 1 0) y') cs) y = E8 (fun t : Int × List Nat => (t.1 * bta c.d c.lo c.hi (t.2.getD 2 0) z * bta b.d b.lo b.hi (t.2.getD 1 0) y) * prt a.lo a.hi (t.2.getD 0 0) x') cs := by
  intro x'; rw [B1w]; refine I2 fun t _ => ?_
  rw [B69 _ _ _ _ hb hy]; simp only [Int.mul_assoc, Int.mul_comm, Int.mul_left_comm]
 simp only [e1, e2]; rw [B1w]; refine I2 fun t ht => ?_
 rw [B69 _ _ _ _ ha hx]; have hl := hcs t ht; obtain ⟨n, es⟩ := t
 match es, hl with
 | [e0, e1, e2], _ =>
   simp only [U1, List.getD_cons_zero, List.getD_cons_succ, Int.mul_one]; simp only [Int.mul_comm, Int.mul_left_comm]
end Go.Proofs.YtmdeppkfboaepaaGreat
namespace Go.Proofs.YtmdeppkfboaepaaGreat
open Go.Ab Ints
def fZ (d2 i j : Nat) (f : Nat → Nat → Nat → Int) (x y z : Nat) : Int := if x < i ∨ (x = i ∧ y < j) then Q1 d2 (f x y) z else f x y z
def fY (d1 i l : Nat) (f : Nat → Nat → Nat → Int) (x y z : Nat) : Int := if x < i ∨ (x = i ∧ z < l) then Q1 d1 (fun y => f x y z) y else f x y z
def fX (d0 j l : Nat) (f : Nat → Nat → Nat → Int) (x y z : Nat) : Int := if y < j ∨ (y = j ∧ z < l) then Q1 d0 (fun x => f x y z) x else f x y z
theorem A9q (g : Nat → Nat) (n : Nat) : ((List.range (n + 1)).map g).map (fun (n : Nat) => (n : Int)) = ((List.range n).map g).map (fun (n : Nat) => (n : Int)) ++ [((g n : Nat) : Int)] := by
 rw [List.range_succ, List.map_append, List.map_append]; rfl
def B9j (lim : Nat) (H : A1) (b c : Nat) (a dd : Value) (d0 d1 d2 : Nat) (A : List Int) (f : Nat → Nat → Nat → Int) (H' : A1) : Prop :=
 IsG d0 d1 d2 A f ∧ C0 H' b a A ∧ C0 H' c dd [(d0 : Int), (d1 : Int), (d2 : Int)] ∧ Ext H H'
theorem D1l (lim : Nat) (vp vl vh vk : Value) (d0 d1 d2 : Nat) (f : Nat → Nat → Nat → Int) (H : A1) (hl : lim ≤ H.next) (h0 : d0 ≤ 4) (h1 : d1 ≤ 4) (h2 : d2 ≤ 4)
 (hgrid : A5 Tryz.prog lim A8q [vp, vl, vh, vk] H fun v H' => ∃ (a dd : Value) (b c : Nat) (A : List Int), v = .tuple #[a, dd] ∧ H.next ≤ b ∧ H.next ≤ c ∧ c ≠ b ∧ b < H'.next ∧ IsG d0 d1 d2 A f ∧ C0 H' b a A ∧ C0 H' c dd [(d0 : Int), (d1 : Int), (d2 : Int)] ∧ Ext H H') :
 A5 Tryz.prog lim A2n [vp, vl, vh, vk] H fun v H' => ∃ (a dd : Value) (A : List Int), v = .tuple #[a, dd] ∧ IsG d0 d1 d2 A (C2u d0 d1 d2 f) ∧ SlI H' a A ∧ Ext H H' := by
 refine B5k.go rfl ?_; unfold A8g; have hsz : (d0 + 1) * (d1 + 1) * (d2 + 1) ≤ 1000 := Nat.le_trans (Nat.mul_le_mul (Nat.mul_le_mul (show d0 + 1 ≤ 5 by omega) (show d1 + 1 ≤ 5 by omega)) (show d2 + 1 ≤ 5 by omega)) (by decide); refine A0 ?_; simp only [sS]; refine A0 ?_; simp only [sS]; refine hgrid.mono ?_; rintro _ H0 ⟨a, dd, b, c, A, rfl, hbH, hcH, hcb, hbl, hg, hva, hvd, hx0⟩; simp only [sS]; have hpos : (d0 + 1) * (d1 + 1) * (d2 + 1) ≠ 0 := Nat.mul_ne_zero (Nat.mul_ne_zero (by omega) (by omega)) (by omega); have hst : B9j lim H b c a dd d0 d1 d2 A f H0 := ⟨hg, hva, hvd, hx0⟩; clear hg hva hvd hx0; generalize hfs : (f) = fs at hst; refine N9 (fun e' H' => ∃ (A : List Int) (y8 y9 y10 y11 y12 y13 y14 y15 y16 y17 y18 y19 : Value), B9j lim H b c a dd d0 d1 d2 A (fun x y z => Q1 d2 (fs x y) z) H' ∧ e' = [vp, vl, vh, vk, .slice none 0 0, .slice none 0 0, a, dd, y8, y9, y10, y11, y12, y13, y14, y15, y16, y17, y18, y19]) ?_ ?_
 ·-- turning Z
  refine A0 ?_; simp only [sS]; refine A8 ?_; refine B9 (fun k e' H' => ∃ (p : Nat) (A : List Int) (y9 y10 y11 y12 y13 y14 y15 y16 y17 y18 y19 : Value), p + k = d0 + 1 ∧ B9j lim H b c a dd d0 d1 d2 A (fZ d2 p 0 fs) H' ∧ e' = [vp, vl, vh, vk, .slice none 0 0, .slice none 0 0, a, dd, .int .i64 p, y9, y10, y11, y12, y13, y14, y15, y16, y17, y18, y19]) (d0 + 1) ⟨0, A, _, _, _, _, _, _, _, _, _, _, _, by omega, ?_, rfl⟩ ?_
  ·exact ⟨hst.1.congr fun x y z hx hy hz => by simp [fZ], hst.2⟩
  rintro k e' H1 ⟨p, A, y9, y10, y11, y12, y13, y14, y15, y16, y17, y18, y19, hpk, hst, rfl⟩; have hd' := hst.2.2.1; have hn1 := hst.2.2.2.next; obtain ⟨w1, w2⟩ := C0.at hd' (i := 0) (by simp); have w1' : F1 1 dd (.int .i64 0) = some (.pointer (some ⟨c, 0, none⟩)) := w1; have w2' : H1.cell c 0 = some (.int .i64 d0) := w2; refine A9 ?_; simp only [sS, w1', w2']; refine C4.split (fun hlt => ?_) (fun hlt => ?_)
  ·have hp : p ≤ d0 := by simpa using hlt
   refine A2 ?_; simp +decide only [sQ]; refine A8 ?_; refine A0 ?_; simp only [sS]; refine A8 ?_; refine B9 (fun k e' H' => ∃ (q : Nat) (A : List Int) (y10 y11 y12 y13 y14 y15 y16 y17 y18 y19 : Value), q + k = d1 + 1 ∧ B9j lim H b c a dd d0 d1 d2 A (fZ d2 p q fs) H' ∧ e' = [vp, vl, vh, vk, .slice none 0 0, .slice none 0 0, a, dd, .int .i64 p, .int .i64 q, y10, y11, y12, y13, y14, y15, y16, y17, y18, y19]) (d1 + 1) ⟨0, A, _, _, _, _, _, _, _, _, _, _, by omega, hst, rfl⟩ ?_; clear hst hd' hn1 w1 w2 w1' w2'; rintro k2 e' H1 ⟨q, A, y10, y11, y12, y13, y14, y15, y16, y17, y18, y19, hqk, hst, rfl⟩; have hd' := hst.2.2.1; have hn1 := hst.2.2.2.next; obtain ⟨w1, w2⟩ := C0.at hd' (i := 1) (by simp); have w1' : F1 1 dd (.int .i64 1) = some (.pointer (some ⟨c, 1, none⟩)) := w1; have w2' : H1.cell c 1 = some (.int .i64 d1) := w2; refine A9 ?_; simp only [sS, w1', w2']; refine C4.split (fun hlt => ?_) (fun hlt => ?_)
   ·have hq : q ≤ d1 := by simpa using hlt
    clear w1 w2 w1' w2'; refine A2 ?_; simp +decide only [sQ]; refine A8 ?_; refine A0 ?_; simp only [sS]; refine C7 (A0 ?_); simp only [sS]; refine A7 ?_; refine B9 (fun k e' H' => ∃ (l c1 : Nat) (ln : Value), l + k = d2 + 1 ∧ C0 H' c1 ln (((List.range l).map fun l => gp d1 d2 p q l).map fun (n : Nat) => (n : Int)) ∧ H1.next ≤ c1 ∧ Ext H1 H' ∧ e' = [vp, vl, vh, vk, .slice none 0 0, .slice none 0 0, a, dd, .int .i64 p, .int .i64 q, ln, .int .i64 l, y12, y13, y14, y15, y16, y17, y18, y19]) (d2 + 1) ⟨0, H1.next, _, by omega, Vec.nil _ _ _, Nat.le_refl _, Ext.refl _, rfl⟩ ?_; rintro k3 e' H2 ⟨l, c1, ln, hlk, hln, hc1, hx2, rfl⟩; have hn2 := hx2.next; have hd2 := Vec.ext hd' hx2; obtain ⟨w1, w2⟩ := C0.at hd2 (i := 2) (by simp); have w1' : F1 1 dd (.int .i64 2) = some (.pointer (some ⟨c, 2, none⟩)) := w1; have w2' : H2.cell c 2 = some (.int .i64 d2) := w2; refine A9 ?_; simp only [sS, w1', w2']; refine C4.split (fun hlt => ?_) (fun hlt => ?_)
    ·have hl3 : l ≤ d2 := by simpa using hlt
     refine A2 ?_; simp +decide only [sQ]; refine A8 ?_; have hln' := hln; simp only [C0, List.length_map, List.length_range] at hln'; obtain ⟨v', H6, b', e6, hv6, hb6', hlt6, c6, n6⟩ := n5 (lim := lim) (bytes := 8) hln' (vi ((gp d1 d2 p q l : Nat) : Int)) (by omega) (by omega); have hbs := L7 H2 (.int .i64 0) (x := vi ((gp d1 d2 p q l : Nat) : Int)) rfl; refine A4 ?_; simp only [sS]; refine (C7a lim dd d0 d1 d2 p q l H2 (Vec.sl hd2) (by omega) (by omega) (by omega) (by omega) (by omega)).eq ?_; simp only [gp] at hbs e6 hv6 ⊢; simp only [sS, hbs, e6]; simp +decide only [sQ]; refine A4 ?_; simp only [sS, D6 (i := l) (by omega)]; simp +decide only [sQ]; refine C6.mk (k3 - 1) (by omega) ⟨l + 1, b', v', by omega, ?_, by rcases hb6' with h | h <;> omega, Chg.ext hx2 c6 hc1, rfl⟩; rw [A9q]; refine C0.snoc ?_; rw [List.length_map, List.length_map, List.length_range]; exact hv6
    ·have hge : l = d2 + 1 := by simp at hlt; omega
     subst hge; refine B8 ?_; simp +decide only [sQ, reduceIte]; have hb1 : b < H1.next := (Vec.blk hst.2.1 (by rw [hst.1.1]; exact hpos)).elim fun _ h => h.2
     obtain ⟨lp1, lp2⟩ := (B63 (d0 := d0) (d1 := d1) (d2 := d2)).1 p q hp hq; have hvA := Vec.ext hst.2.1 hx2; refine A4 ?_; simp only [sS]; refine (C1h lim a ln A (lnZ d1 d2 p q) b c1 d2 H2 (by omega) (by omega) hvA hln (by omega) (by omega) (by simp [lnZ]) (by rw [hst.1.1]; exact hsz) (by rw [hst.1.1]; exact lp2) lp1).mono ?_; rintro _ H3 ⟨A', ht, hvA', hch⟩; simp only [sS]; simp +decide only [sQ]; refine A4 ?_; simp only [sS, D6 (i := q) (by omega)]; simp +decide only [sQ]; refine C6.mk (k2 - 1) (by omega) ⟨q + 1, A', _, _, _, _, _, _, _, _, _, _, by omega, ⟨?_, hvA', Vec.chg hd2 hch hcb, Chg.ext (hst.2.2.2.trans hx2) hch hbH⟩, rfl⟩; refine (hst.1.turnZ hp hq ht).congr fun x y z hx hy hz => ?_
     by_cases hc : x = p ∧ y = q
     ·obtain ⟨rfl, rfl⟩ := hc; rw [show fZ d2 x y fs x y = fs x y from by funext z; simp [fZ]]; simp [fZ]
     ·simp only [hc, if_false, fZ]; by_cases h1 : x < p ∨ (x = p ∧ y < q)
      ·rw [if_pos h1, if_pos (by omega)]
      ·rw [if_neg h1, if_neg (by omega)]
   ·have hge : q = d1 + 1 := by simp at hlt; omega
    subst hge; refine B8 ?_; simp +decide only [sQ, reduceIte]; refine A4 ?_; simp only [sS, D6 (i := p) (by omega)]; simp +decide only [sQ]; refine C6.mk (k - 1) (by omega) ⟨p + 1, A, _, _, _, _, _, _, _, _, _, _, _, by omega, ⟨hst.1.congr fun x y z hx hy hz => ?_, hst.2⟩, rfl⟩; simp only [fZ]; by_cases h1 : x < p ∨ (x = p ∧ y < d1 + 1)
    ·rw [if_pos h1, if_pos (by omega)]
    ·rw [if_neg h1, if_neg (by omega)]
  ·have hge : p = d0 + 1 := by simp at hlt; omega
   subst hge; refine B8 ?_; simp +decide only [sQ, reduceIte]; refine ⟨A, _, _, _, _, _, _, _, _, _, _, _, _, ⟨hst.1.congr fun x y z hx hy hz => ?_, hst.2⟩, rfl⟩; simp only [fZ]; rw [if_pos (by omega)]
 clear hst; rintro e' H0' ⟨A, y8, y9, y10, y11, y12, y13, y14, y15, y16, y17, y18, y19, hst, rfl⟩; subst hfs; generalize hfs : (fun x y z => Q1 d2 (f x y) z) = fs at hst; refine N9 (fun e' H' => ∃ (A : List Int) (y8 y9 y10 y11 y12 y13 y14 y15 y16 y17 y18 y19 : Value), B9j lim H b c a dd d0 d1 d2 A (fun x y z => Q1 d1 (fun y => fs x y z) y) H' ∧ e' = [vp, vl, vh, vk, .slice none 0 0, .slice none 0 0, a, dd, y8, y9, y10, y11, y12, y13, y14, y15, y16, y17, y18, y19]) ?_ ?_
 ·-- turning Y
  refine A0 ?_; simp only [sS]; refine A8 ?_; refine B9 (fun k e' H' => ∃ (p : Nat) (A : List Int) (y8 y9 y10 y11 y13 y14 y15 y16 y17 y18 y19 : Value), p + k = d0 + 1 ∧ B9j lim H b c a dd d0 d1 d2 A (fY d1 p 0 fs) H' ∧ e' = [vp, vl, vh, vk, .slice none 0 0, .slice none 0 0, a, dd, y8, y9, y10, y11, .int .i64 p, y13, y14, y15, y16, y17, y18, y19]) (d0 + 1) ⟨0, A, _, _, _, _, _, _, _, _, _, _, _, by omega, ?_, rfl⟩ ?_
  ·exact ⟨hst.1.congr fun x y z hx hy hz => by simp [fY], hst.2⟩
  rintro k e' H1 ⟨p, A, y8, y9, y10, y11, y13, y14, y15, y16, y17, y18, y19, hpk, hst, rfl⟩; have hd' := hst.2.2.1; have hn1 := hst.2.2.2.next; obtain ⟨w1, w2⟩ := C0.at hd' (i := 0) (by simp); have w1' : F1 1 dd (.int .i64 0) = some (.pointer (some ⟨c, 0, none⟩)) := w1; have w2' : H1.cell c 0 = some (.int .i64 d0) := w2; refine A9 ?_; simp only [sS, w1', w2']; refine C4.split (fun hlt => ?_) (fun hlt => ?_)
  ·have hp : p ≤ d0 := by simpa using hlt
   refine A2 ?_; simp +decide only [sQ]; refine A8 ?_; refine A0 ?_; simp only [sS]; refine A8 ?_; refine B9 (fun k e' H' => ∃ (q : Nat) (A : List Int) (y8 y9 y10 y11 y14 y15 y16 y17 y18 y19 : Value), q + k = d2 + 1 ∧ B9j lim H b c a dd d0 d1 d2 A (fY d1 p q fs) H' ∧ e' = [vp, vl, vh, vk, .slice none 0 0, .slice none 0 0, a, dd, y8, y9, y10, y11, .int .i64 p, .int .i64 q, y14, y15, y16, y17, y18, y19]) (d2 + 1) ⟨0, A, _, _, _, _, _, _, _, _, _, _, by omega, hst, rfl⟩ ?_; clear hst hd' hn1 w1 w2 w1' w2'; rintro k2 e' H1 ⟨q, A, y8, y9, y10, y11, y14, y15, y16, y17, y18, y19, hqk, hst, rfl⟩; have hd' := hst.2.2.1; have hn1 := hst.2.2.2.next; obtain ⟨w1, w2⟩ := C0.at hd' (i := 2) (by simp); have w1' : F1 1 dd (.int .i64 2) = some (.pointer (some ⟨c, 2, none⟩)) := w1; have w2' : H1.cell c 2 = some (.int .i64 d2) := w2; refine A9 ?_; simp only [sS, w1', w2']; refine C4.split (fun hlt => ?_) (fun hlt => ?_)
   ·have hq : q ≤ d2 := by simpa using hlt
    clear w1 w2 w1' w2'; refine A2 ?_; simp +decide only [sQ]; refine A8 ?_; refine A0 ?_; simp only [sS]; refine C7 (A0 ?_); simp only [sS]; refine A7 ?_; refine B9 (fun k e' H' => ∃ (l c1 : Nat) (ln : Value), l + k = d1 + 1 ∧ C0 H' c1 ln (((List.range l).map fun l => gp d1 d2 p l q).map fun (n : Nat) => (n : Int)) ∧ H1.next ≤ c1 ∧ Ext H1 H' ∧ e' = [vp, vl, vh, vk, .slice none 0 0, .slice none 0 0, a, dd, y8, y9, y10, y11, .int .i64 p, .int .i64 q, ln, .int .i64 l, y16, y17, y18, y19]) (d1 + 1) ⟨0, H1.next, _, by omega, Vec.nil _ _ _, Nat.le_refl _, Ext.refl _, rfl⟩ ?_; rintro k3 e' H2 ⟨l, c1, ln, hlk, hln, hc1, hx2, rfl⟩; have hn2 := hx2.next; have hd2 := Vec.ext hd' hx2; obtain ⟨w1, w2⟩ := C0.at hd2 (i := 1) (by simp); have w1' : F1 1 dd (.int .i64 1) = some (.pointer (some ⟨c, 1, none⟩)) := w1; have w2' : H2.cell c 1 = some (.int .i64 d1) := w2; refine A9 ?_; simp only [sS, w1', w2']; refine C4.split (fun hlt => ?_) (fun hlt => ?_)
    ·have hl3 : l ≤ d1 := by simpa using hlt
     refine A2 ?_; simp +decide only [sQ]; refine A8 ?_; have hln' := hln; simp only [C0, List.length_map, List.length_range] at hln'; obtain ⟨v', H6, b', e6, hv6, hb6', hlt6, c6, n6⟩ := n5 (lim := lim) (bytes := 8) hln' (vi ((gp d1 d2 p l q : Nat) : Int)) (by omega) (by omega); have hbs := L7 H2 (.int .i64 0) (x := vi ((gp d1 d2 p l q : Nat) : Int)) rfl; refine A4 ?_; simp only [sS]; refine (C7a lim dd d0 d1 d2 p l q H2 (Vec.sl hd2) (by omega) (by omega) (by omega) (by omega) (by omega)).eq ?_; simp only [gp] at hbs e6 hv6 ⊢; simp only [sS, hbs, e6]; simp +decide only [sQ]; refine A4 ?_; simp only [sS, D6 (i := l) (by omega)]; simp +decide only [sQ]; refine C6.mk (k3 - 1) (by omega) ⟨l + 1, b', v', by omega, ?_, by rcases hb6' with h | h <;> omega, Chg.ext hx2 c6 hc1, rfl⟩; rw [A9q]; refine C0.snoc ?_; rw [List.length_map, List.length_map, List.length_range]; exact hv6
    ·have hge : l = d1 + 1 := by simp at hlt; omega
     subst hge; refine B8 ?_; simp +decide only [sQ, reduceIte]; have hb1 : b < H1.next := (Vec.blk hst.2.1 (by rw [hst.1.1]; exact hpos)).elim fun _ h => h.2
     obtain ⟨lp1, lp2⟩ := (B63 (d0 := d0) (d1 := d1) (d2 := d2)).2.1 p q hp hq; have hvA := Vec.ext hst.2.1 hx2; refine A4 ?_; simp only [sS]; refine (C1h lim a ln A (lnY d1 d2 p q) b c1 d1 H2 (by omega) (by omega) hvA hln (by omega) (by omega) (by simp [lnY]) (by rw [hst.1.1]; exact hsz) (by rw [hst.1.1]; exact lp2) lp1).mono ?_; rintro _ H3 ⟨A', ht, hvA', hch⟩; simp only [sS]; simp +decide only [sQ]; refine A4 ?_; simp only [sS, D6 (i := q) (by omega)]; simp +decide only [sQ]; refine C6.mk (k2 - 1) (by omega) ⟨q + 1, A', _, _, _, _, _, _, _, _, _, _, by omega, ⟨?_, hvA', Vec.chg hd2 hch hcb, Chg.ext (hst.2.2.2.trans hx2) hch hbH⟩, rfl⟩; refine (hst.1.turnY hp hq ht).congr fun x y z hx hy hz => ?_
     by_cases hc : x = p ∧ z = q
     ·obtain ⟨rfl, rfl⟩ := hc; simp [fY]
     ·simp only [hc, if_false, fY]; by_cases h1 : x < p ∨ (x = p ∧ z < q)
      ·rw [if_pos h1, if_pos (by omega)]
      ·rw [if_neg h1, if_neg (by omega)]
   ·have hge : q = d2 + 1 := by simp at hlt; omega
    subst hge; refine B8 ?_; simp +decide only [sQ, reduceIte]; refine A4 ?_; simp only [sS, D6 (i := p) (by omega)]; simp +decide only [sQ]; refine C6.mk (k - 1) (by omega) ⟨p + 1, A, _, _, _, _, _, _, _, _, _, _, _, by omega, ⟨hst.1.congr fun x y z hx hy hz => ?_, hst.2⟩, rfl⟩; simp only [fY]; by_cases h1 : x < p ∨ (x = p ∧ z < d2 + 1)
    ·rw [if_pos h1, if_pos (by omega)]
    ·rw [if_neg h1, if_neg (by omega)]
  ·have hge : p = d0 + 1 := by simp at hlt; omega
   subst hge; refine B8 ?_; simp +decide only [sQ, reduceIte]; refine ⟨A, _, _, _, _, _, _, _, _, _, _, _, _, ⟨hst.1.congr fun x y z hx hy hz => ?_, hst.2⟩, rfl⟩; simp only [fY]; rw [if_pos (by omega)]
 clear hst; rintro e' H0' ⟨A, y8, y9, y10, y11, y12, y13, y14, y15, y16, y17, y18, y19, hst, rfl⟩; subst hfs; generalize hfs : (fun x y z => Q1 d1 (fun y => Q1 d2 (f x y) z) y) = fs at hst; refine N9 (fun e' H' => ∃ (A : List Int) (y8 y9 y10 y11 y12 y13 y14 y15 y16 y17 y18 y19 : Value), B9j lim H b c a dd d0 d1 d2 A (fun x y z => Q1 d0 (fun x => fs x y z) x) H' ∧ e' = [vp, vl, vh, vk, .slice none 0 0, .slice none 0 0, a, dd, y8, y9, y10, y11, y12, y13, y14, y15, y16, y17, y18, y19]) ?_ ?_
 ·-- turning X
  refine A0 ?_; simp only [sS]; refine A8 ?_; refine B9 (fun k e' H' => ∃ (p : Nat) (A : List Int) (y8 y9 y10 y11 y12 y13 y14 y15 y17 y18 y19 : Value), p + k = d1 + 1 ∧ B9j lim H b c a dd d0 d1 d2 A (fX d0 p 0 fs) H' ∧ e' = [vp, vl, vh, vk, .slice none 0 0, .slice none 0 0, a, dd, y8, y9, y10, y11, y12, y13, y14, y15, .int .i64 p, y17, y18, y19]) (d1 + 1) ⟨0, A, _, _, _, _, _, _, _, _, _, _, _, by omega, ?_, rfl⟩ ?_
  ·exact ⟨hst.1.congr fun x y z hx hy hz => by simp [fX], hst.2⟩
  rintro k e' H1 ⟨p, A, y8, y9, y10, y11, y12, y13, y14, y15, y17, y18, y19, hpk, hst, rfl⟩; have hd' := hst.2.2.1; have hn1 := hst.2.2.2.next; obtain ⟨w1, w2⟩ := C0.at hd' (i := 1) (by simp); have w1' : F1 1 dd (.int .i64 1) = some (.pointer (some ⟨c, 1, none⟩)) := w1; have w2' : H1.cell c 1 = some (.int .i64 d1) := w2; refine A9 ?_; simp only [sS, w1', w2']; refine C4.split (fun hlt => ?_) (fun hlt => ?_)
  ·have hp : p ≤ d1 := by simpa using hlt
   refine A2 ?_; simp +decide only [sQ]; refine A8 ?_; refine A0 ?_; simp only [sS]; refine A8 ?_; refine B9 (fun k e' H' => ∃ (q : Nat) (A : List Int) (y8 y9 y10 y11 y12 y13 y14 y15 y18 y19 : Value), q + k = d2 + 1 ∧ B9j lim H b c a dd d0 d1 d2 A (fX d0 p q fs) H' ∧ e' = [vp, vl, vh, vk, .slice none 0 0, .slice none 0 0, a, dd, y8, y9, y10, y11, y12, y13, y14, y15, .int .i64 p, .int .i64 q, y18, y19]) (d2 + 1) ⟨0, A, _, _, _, _, _, _, _, _, _, _, by omega, hst, rfl⟩ ?_; clear hst hd' hn1 w1 w2 w1' w2'; rintro k2 e' H1 ⟨q, A, y8, y9, y10, y11, y12, y13, y14, y15, y18, y19, hqk, hst, rfl⟩; have hd' := hst.2.2.1; have hn1 := hst.2.2.2.next; obtain ⟨w1, w2⟩ := C0.at hd' (i := 2) (by simp); have w1' : F1 1 dd (.int .i64 2) = some (.pointer (some ⟨c, 2, none⟩)) := w1; have w2' : H1.cell c 2 = some (.int .i64 d2) := w2; refine A9 ?_; simp only [sS, w1', w2']; refine C4.split (fun hlt => ?_) (fun hlt => ?_)
   ·have hq : q ≤ d2 := by simpa using hlt
    clear w1 w2 w1' w2'; refine A2 ?_; simp +decide only [sQ]; refine A8 ?_; refine A0 ?_; simp only [sS]; refine C7 (A0 ?_); simp only [sS]; refine A7 ?_; refine B9 (fun k e' H' => ∃ (l c1 : Nat) (ln : Value), l + k = d0 + 1 ∧ C0 H' c1 ln (((List.range l).map fun l => gp d1 d2 l p q).map fun (n : Nat) => (n : Int)) ∧ H1.next ≤ c1 ∧ Ext H1 H' ∧ e' = [vp, vl, vh, vk, .slice none 0 0, .slice none 0 0, a, dd, y8, y9, y10, y11, y12, y13, y14, y15, .int .i64 p, .int .i64 q, ln, .int .i64 l]) (d0 + 1) ⟨0, H1.next, _, by omega, Vec.nil _ _ _, Nat.le_refl _, Ext.refl _, rfl⟩ ?_; rintro k3 e' H2 ⟨l, c1, ln, hlk, hln, hc1, hx2, rfl⟩; have hn2 := hx2.next; have hd2 := Vec.ext hd' hx2; obtain ⟨w1, w2⟩ := C0.at hd2 (i := 0) (by simp); have w1' : F1 1 dd (.int .i64 0) = some (.pointer (some ⟨c, 0, none⟩)) := w1; have w2' : H2.cell c 0 = some (.int .i64 d0) := w2; refine A9 ?_; simp only [sS, w1', w2']; refine C4.split (fun hlt => ?_) (fun hlt => ?_)
    ·have hl3 : l ≤ d0 := by simpa using hlt
     refine A2 ?_; simp +decide only [sQ]; refine A8 ?_; have hln' := hln; simp only [C0, List.length_map, List.length_range] at hln'; obtain ⟨v', H6, b', e6, hv6, hb6', hlt6, c6, n6⟩ := n5 (lim := lim) (bytes := 8) hln' (vi ((gp d1 d2 l p q : Nat) : Int)) (by omega) (by omega); have hbs := L7 H2 (.int .i64 0) (x := vi ((gp d1 d2 l p q : Nat) : Int)) rfl; refine A4 ?_; simp only [sS]; refine (C7a lim dd d0 d1 d2 l p q H2 (Vec.sl hd2) (by omega) (by omega) (by omega) (by omega) (by omega)).eq ?_; simp only [gp] at hbs e6 hv6 ⊢; simp only [sS, hbs, e6]; simp +decide only [sQ]; refine A4 ?_; simp only [sS, D6 (i := l) (by omega)]; simp +decide only [sQ]; refine C6.mk (k3 - 1) (by omega) ⟨l + 1, b', v', by omega, ?_, by rcases hb6' with h | h <;> omega, Chg.ext hx2 c6 hc1, rfl⟩; rw [A9q]; refine C0.snoc ?_; rw [List.length_map, List.length_map, List.length_range]; exact hv6
    ·have hge : l = d0 + 1 := by simp at hlt; omega
     subst hge; refine B8 ?_; simp +decide only [sQ, reduceIte]; have hb1 : b < H1.next := (Vec.blk hst.2.1 (by rw [hst.1.1]; exact hpos)).elim fun _ h => h.2
     obtain ⟨lp1, lp2⟩ := (B63 (d0 := d0) (d1 := d1) (d2 := d2)).2.2 p q hp hq; have hvA := Vec.ext hst.2.1 hx2; refine A4 ?_; simp only [sS]; refine (C1h lim a ln A (lnX d0 d1 d2 p q) b c1 d0 H2 (by omega) (by omega) hvA hln (by omega) (by omega) (by simp [lnX]) (by rw [hst.1.1]; exact hsz) (by rw [hst.1.1]; exact lp2) lp1).mono ?_; rintro _ H3 ⟨A', ht, hvA', hch⟩; simp only [sS]; simp +decide only [sQ]; refine A4 ?_; simp only [sS, D6 (i := q) (by omega)]; simp +decide only [sQ]; refine C6.mk (k2 - 1) (by omega) ⟨q + 1, A', _, _, _, _, _, _, _, _, _, _, by omega, ⟨?_, hvA', Vec.chg hd2 hch hcb, Chg.ext (hst.2.2.2.trans hx2) hch hbH⟩, rfl⟩; refine (hst.1.turnX hp hq ht).congr fun x y z hx hy hz => ?_
     by_cases hc : y = p ∧ z = q
     ·obtain ⟨rfl, rfl⟩ := hc; simp [fX]
     ·simp only [hc, if_false, fX]; by_cases h1 : y < p ∨ (y = p ∧ z < q)
      ·rw [if_pos h1, if_pos (by omega)]
      ·rw [if_neg h1, if_neg (by omega)]
   ·have hge : q = d2 + 1 := by simp at hlt; omega
    subst hge; refine B8 ?_; simp +decide only [sQ, reduceIte]; refine A4 ?_; simp only [sS, D6 (i := p) (by omega)]; simp +decide only [sQ]; refine C6.mk (k - 1) (by omega) ⟨p + 1, A, _, _, _, _, _, _, _, _, _, _, _, by omega, ⟨hst.1.congr fun x y z hx hy hz => ?_, hst.2⟩, rfl⟩; simp only [fX]; by_cases h1 : y < p ∨ (y = p ∧ z < d2 + 1)
    ·rw [if_pos h1, if_pos (by omega)]
    ·rw [if_neg h1, if_neg (by omega)]
  ·have hge : p = d1 + 1 := by simp at hlt; omega
   subst hge; refine B8 ?_; simp +decide only [sQ, reduceIte]; refine ⟨A, _, _, _, _, _, _, _, _, _, _, _, _, ⟨hst.1.congr fun x y z hx hy hz => ?_, hst.2⟩, rfl⟩; simp only [fX]; rw [if_pos (by omega)]
 clear hst; rintro e' H0' ⟨A, y8, y9, y10, y11, y12, y13, y14, y15, y16, y17, y18, y19, hst, rfl⟩; subst hfs; refine A0 ?_; simp only [sS]; refine A3 ?_; simp +decide only [sQ]; exact ⟨a, dd, A, rfl, hst.1, Vec.sl hst.2.1, hst.2.2.2⟩
end Go.Proofs.YtmdeppkfboaepaaGreat
namespace Go.Proofs.YtmdeppkfboaepaaGreat
open Go.Ab Ints
theorem C42 (lim k : Nat) (H : A1) (hk : k ≤ 40) : A5 Tryz.prog lim Y6 [.int .i64 k] H fun v H' => v = .int .i64 (wr (2 ^ k)) ∧ H' = H := by
 refine A4g.go rfl ?_; unfold A0z; have e1 : IntKind.u64.wrap (k : Int) = (k : Int) := by
  have : IntKind.u64.wrap (k : Int) = (k : Int) % 18446744073709551616 := rfl; rw [this]; omega
 have e2 : ¬ ((k : Int) < 0) := by omega
 have e3 : min ((k : Int)).toNat IntKind.i64.bits = k := by
  show min ((k : Int)).toNat 64 = k; omega
 refine A0 ?_; simp only [sS]; refine A0 ?_; simp only [sS, e1, e2, e3, Int.one_mul]; refine A3 ?_; simp +decide only [sQ]
def E5 : Int → List Tm → Int
 | m, [] => m
 | m, t :: l => E5 (if m > t.x + t.y + t.z then m else t.x + t.y + t.z) l
theorem C2r (lim : Nat) (s : Value) (p : List Tm) (H : A1) (hl : lim ≤ H.next) (hs : SlT H s p) (hn : p.length ≤ 1000000000) (hp : ∀ t ∈ p, 0 ≤ t.x ∧ t.x ≤ 4 ∧ 0 ≤ t.y ∧ t.y ≤ 4 ∧ 0 ≤ t.z ∧ t.z ≤ 4) :
 A5 Tryz.prog lim B4l [s] H fun v H' => v = .int .i64 (E5 (-1) p) ∧ Ext H H' := by
 refine B3a.go rfl ?_; unfold A4k; refine A0 ?_; simp only [sS]; refine A0 ?_; simp only [sS]; refine C7 (A0 ?_); simp only [sS, hs.lenV]; refine A7 ?_; refine B9 (fun j e' H' => ∃ (i : Nat) (m : Int) (y : Value), i + j = p.length ∧ E5 (-1) p = E5 m (p.drop i) ∧ Ext H H' ∧ e' = [s, .int .i64 0, .int .i64 m, y, s, .int .i64 p.length, .int .i64 i]) p.length ⟨0, -1, _, by omega, rfl, Ext.refl _, rfl⟩ ?_; rintro j e' H' ⟨i, m, y, hik, hall, hx, rfl⟩; have hnx := hx.next; refine A9 ?_; simp only [sS]; refine C4.split (fun hlt => ?_) (fun hlt => ?_)
 ·have hlt' : i < p.length := by simpa using hlt
  obtain ⟨b1, o1, h1, hat⟩ := (hs.ext hx).at hlt'; rw [List.drop_eq_getElem_cons hlt', E5] at hall; obtain ⟨q1, q2, q3, q4, q5, q6⟩ := hp _ (List.getElem_mem hlt'); have e1 : IntKind.i64.wrap (p[i].x + p[i].y) = p[i].x + p[i].y := E3 (by omega) (by omega); have e2 : IntKind.i64.wrap (p[i].x + p[i].y + p[i].z) = p[i].x + p[i].y + p[i].z := E3 (by omega) (by omega); refine A2 ?_; simp +decide only [sQ]; refine A7 ?_; refine A0 ?_; simp only [sS, h1, hat.all, K8 (lim := lim) (H := H') (by omega)]; have hB := J8.mk' H' p[i]; generalize H'.alloc (tc p[i]) = H1 at hB ⊢; generalize H'.next = q at hB hnx ⊢; have hx1 := hx.trans hB.ext; refine A4 ?_; simp only [sS, Nat.zero_add, hB.c1, hB.c2, hB.c3, e1, e2]; refine (V7 _ _ _ _).eq ?_; simp only [sS]; simp +decide only [sQ]; refine A4 ?_; simp only [sS, D6 (i := i) (by omega)]; simp +decide only [sQ]; exact C6.mk (j - 1) (by omega) ⟨i + 1, _, _, by omega, hall, hx1, rfl⟩
 ·have hge : i = p.length := by simp at hlt; omega
  subst hge; refine B8 ?_; simp +decide only [sQ, reduceIte]; refine A0 ?_; simp only [sS]; refine A3 ?_; simp +decide only [sQ]; rw [List.drop_length, E5] at hall; rw [hall]; exact ⟨rfl, hx⟩
def dgS (p : List Tm) (L U : List Int) (k : Nat) : Int := if k < L.length ∧ U.getD k 0 > L.getD k 0 then (if (0 : Int) > I3 k (-1) p then 0 else I3 k (-1) p) else 0
theorem C46 (lim : Nat) (s l h : Value) (p : List Tm) (L U : List Int) (H : A1) (hl : lim ≤ H.next) (hs : SlT H s p) (hL : SlI H l L) (hU : SlI H h U) (hn : p.length ≤ 1000000000) (hn1 : L.length ≤ 3) (hn2 : U.length = L.length) :
 A5 Tryz.prog lim B27 [s, l, h] H fun v H' => ∃ b, H.next ≤ b ∧ b < H'.next ∧ C0 H' b v [dgS p L U 0, dgS p L U 1, dgS p L U 2] ∧ Ext H H' := by
 refine B1m.go rfl ?_; unfold A3d; refine A0 ?_; simp only [sS]; have hb : E0 H 3 [.int .i64 0, .int .i64 0, .int .i64 0] [(0, 1, .int .i64 0), (1, 1, .int .i64 0), (2, 1, .int .i64 0)] = some (.slice (some ⟨H.next, 0, some 0⟩) 3 3, H.alloc [.int .i64 0, .int .i64 0, .int .i64 0]) := rfl; refine A0 ?_; simp only [sS, hb]; have hv : C0 (H.alloc [.int .i64 0, .int .i64 0, .int .i64 0]) H.next (.slice (some ⟨H.next, 0, some 0⟩) 3 3) [0, 0, 0] := Vec.lit rfl; have hx := Ext.alloc H [Value.int .i64 0, .int .i64 0, .int .i64 0]; generalize H.alloc [Value.int .i64 0, .int .i64 0, .int .i64 0] = H1 at hv hx ⊢; generalize (Value.slice (some ⟨H.next, 0, some 0⟩) 3 3) = v at hv ⊢; have hL1 := (show SlI H l L from hL).lenV; refine C7 (A0 ?_); simp only [sS, hL1]; refine A7 ?_; refine B9 (fun j e' H' => ∃ (i : Nat) (y : Value), i + j = L.length ∧ C0 H' H.next v [if 0 < i then dgS p L U 0 else 0, if 1 < i then dgS p L U 1 else 0, if 2 < i then dgS p L U 2 else 0] ∧ Ext H H' ∧ e' = [s, l, h, .slice none 0 0, v, y, .int .i64 L.length, .int .i64 i]) L.length ⟨0, _, by omega, hv, hx, rfl⟩ ?_; clear hv hx; rintro j e' H2 ⟨i, y, hij, hv, hx, rfl⟩; have hn2' := hx.next; refine A9 ?_; simp only [sS]; refine C4.split (fun hlt => ?_) (fun hlt => ?_)
 ·have hlt' : i < L.length := by simpa using hlt
  obtain ⟨b1, o1, u1, _, u2⟩ := SlI.get (show SlI H2 l L from hL.keep (T8.of_ext hx (Nat.le_refl _)) (Nat.le_refl _)) hlt'; obtain ⟨b2, o2, w1, _, w2⟩ := SlI.get (show SlI H2 h U from hU.keep (T8.of_ext hx (Nat.le_refl _)) (Nat.le_refl _)) (i := i) (by omega); have g1 : L.getD i 0 = L[i] := by simp [hlt']
  have g2 : U.getD i 0 = U[i]'(by omega) := by simp [show i < U.length by omega]
  refine A2 ?_; simp +decide only [sQ]; refine A8 ?_; refine A0 ?_; simp only [sS]; refine E1 ?_; simp only [sS, u1, u2, w1, w2]; refine C4.split (fun hgt => ?_) (fun hgt => ?_)
  ·have hgt' : U.getD i 0 > L.getD i 0 := by rw [g1, g2]; simpa using hgt
   refine A4 ?_; simp only [sS]; refine (j0 lim s p i H2 (by omega) (hs.ext hx) hn).mono ?_; rintro _ H3 ⟨rfl, hx3⟩; have hn3 := hx3.next; simp only [sS]; refine (V7 _ _ _ _).eq ?_; obtain ⟨q1, _⟩ := C0.at (Vec.ext hv hx3) (i := i) (by simp; omega); obtain ⟨cs, hst, hv'⟩ := C0.put (lim := lim) (Vec.ext hv hx3) hl (i := i) (by simp; omega) (if (0 : Int) > I3 i (-1) p then 0 else I3 i (-1) p); simp only [sS, q1, hst]; simp +decide only [sQ]; refine A4 ?_; simp only [sS, D6 (i := i) (by omega)]; simp +decide only [sQ]; refine C6.mk (j - 1) (by omega) ⟨i + 1, _, by omega, ?_, Chg.ext (hx.trans hx3) (Chg.put _ _ _) (Nat.le_refl _), rfl⟩; have hd : dgS p L U i = (if (0 : Int) > I3 i (-1) p then 0 else I3 i (-1) p) := by rw [dgS, if_pos ⟨hlt', hgt'⟩]
   rw [← hd] at hv'; have hi3 : i = 0 ∨ i = 1 ∨ i = 2 := by omega
   rcases hi3 with rfl | rfl | rfl <;> simpa using hv'
  ·have hgt' : ¬ U.getD i 0 > L.getD i 0 := by rw [g1, g2]; simpa using hgt
   refine A2 ?_; simp +decide only [sQ]; refine A4 ?_; simp only [sS, D6 (i := i) (by omega)]; simp +decide only [sQ]; refine C6.mk (j - 1) (by omega) ⟨i + 1, _, by omega, ?_, hx, rfl⟩; have hd : dgS p L U i = 0 := by rw [dgS, if_neg (fun h => hgt' h.2)]
   have hi3 : i = 0 ∨ i = 1 ∨ i = 2 := by omega
   rcases hi3 with rfl | rfl | rfl <;> simpa [hd] using hv
 ·have hge : i = L.length := by simp at hlt; omega
  subst hge; refine B8 ?_; simp +decide only [sQ, reduceIte]; refine A0 ?_; simp only [sS]; refine A3 ?_; simp +decide only [sQ]; have hz : ∀ k, (if k < L.length then dgS p L U k else 0) = dgS p L U k := by
   intro k; split
   ·rfl
   ·rename_i h; rw [dgS, if_neg (fun e => h e.1)]
  rw [hz, hz, hz] at hv; refine ⟨H.next, Nat.le_refl _, (Vec.blk hv (by simp)).elim fun _ h => h.2, hv, hx⟩
end Go.Proofs.YtmdeppkfboaepaaGreat
namespace Go.Proofs.YtmdeppkfboaepaaGreat
open Go.Ab Ints
def tmC (k : Nat) (deg : Int) (t : Tm) : Int × List Nat := (t.c * ((2 : Int) ^ k) ^ (deg - t.x - t.y - t.z).toNat, [t.x.toNat, t.y.toNat, t.z.toNat])
theorem IsG.add {d0 d1 d2 x y z : Nat} {A : List Int} {f : Nat → Nat → Nat → Int} (h : IsG d0 d1 d2 A f) (hx : x ≤ d0) (hy : y ≤ d1) (hz : z ≤ d2) (u : Int) :
 IsG d0 d1 d2 (A.set (gp d1 d2 x y z) (wr (A.getD (gp d1 d2 x y z) 0 + wr u))) fun x' y' z' => f x' y' z' + if x' = x ∧ y' = y ∧ z' = z then u else 0 := by
 refine ⟨by rw [List.length_set]; exact h.1, fun x' y' z' hx' hy' hz' => ?_⟩; rw [U9 _ _ _ _ (by rw [h.1]; exact B9t hx hy hz)]; by_cases hc : x' = x ∧ y' = y ∧ z' = z
 ·obtain ⟨rfl, rfl, rfl⟩ := hc; rw [if_pos rfl]; show _ = wr (f x' y' z' + if x' = x' ∧ y' = y' ∧ z' = z' then u else 0); rw [if_pos (show x' = x' ∧ y' = y' ∧ z' = z' from ⟨rfl, rfl, rfl⟩), h.2 _ _ _ hx hy hz]; exact C1e _ _
 ·rw [if_neg (fun e => by obtain ⟨e1, e2, e3⟩ := A9j hy' hz' hy hz e; exact hc ⟨e1, e2, e3⟩)]; show _ = wr (f x' y' z' + if x' = x ∧ y' = y ∧ z' = z then u else 0); rw [if_neg hc, h.2 _ _ _ hx' hy' hz', Int.add_zero]
theorem B6t (n i : Nat) : (List.replicate n (0 : Int)).getD i 0 = 0 := by
 rw [List.getD_eq_getElem?_getD, List.getElem?_replicate]; split <;> rfl
def D1n (H : A1) (c bo lb mb q : Nat) (dd a lv mv : Value) (d0 d1 d2 : Nat) (L U : List Int) (t : Tm) (f : Nat → Nat → Nat → Int) (A : List Int) (H' : A1) : Prop :=
 IsG d0 d1 d2 A f ∧ C0 H' c dd [(d0 : Int), (d1 : Int), (d2 : Int)] ∧ C0 H' bo a A ∧ C0 H' lb lv [L.getD 0 0, L.getD 1 0, L.getD 2 0] ∧ C0 H' mb mv [U.getD 0 0, U.getD 1 0, U.getD 2 0] ∧ J8 H H' q t ∧ bo < H'.next ∧ mb < H'.next
theorem C4k (lo hi : Int) {e j : Nat} (he : e ≤ 4) (hj : j ≤ 4) (h : e < j) : prt lo hi e j = 0 := by
 unfold prt; rw [C8x ⟨e, by omega⟩ ⟨j, by omega⟩ h]; simp
theorem D1s (lim : Nat) (s l h : Value) (p : List Tm) (L U : List Int) (k d0 d1 d2 : Nat) (H : A1) (hl : lim ≤ H.next) (hs : SlT H s p) (hL : SlI H l L) (hU : SlI H h U) (hn : p.length ≤ 1000000000) (hn1 : L.length ≤ 3) (hn2 : U.length = L.length) (hk : k ≤ 4)
 (hp : ∀ t ∈ p, 0 ≤ t.x ∧ t.x ≤ 4 ∧ 0 ≤ t.y ∧ t.y ≤ 4 ∧ 0 ≤ t.z ∧ t.z ≤ 4) (hdeg : ∀ t ∈ p, t.x + t.y + t.z ≤ E5 (-1) p) (hdeg4 : E5 (-1) p ≤ 4) (e0 : dgS p L U 0 = d0) (e1 : dgS p L U 1 = d1) (e2 : dgS p L U 2 = d2) (b0 : d0 ≤ 4) (b1 : d1 ≤ 4) (b2 : d2 ≤ 4) :
 A5 Tryz.prog lim A8q [s, l, h, .int .i64 k] H fun v H' => ∃ (a dd : Value) (b c : Nat) (A : List Int), v = .tuple #[a, dd] ∧ H.next ≤ b ∧ H.next ≤ c ∧ c ≠ b ∧ b < H'.next ∧
  IsG d0 d1 d2 A (A1z (p.map (tmC k (E5 (-1) p))) ⟨L.getD 0 0, U.getD 0 0, d0⟩ ⟨L.getD 1 0, U.getD 1 0, d1⟩ ⟨L.getD 2 0, U.getD 2 0, d2⟩) ∧ C0 H' b a A ∧ C0 H' c dd [(d0 : Int), (d1 : Int), (d2 : Int)] ∧ Ext H H' := by
 refine B7s.go rfl ?_; unfold A8l; have hsz : (d0 + 1) * (d1 + 1) * (d2 + 1) ≤ 1000 := Nat.le_trans (Nat.mul_le_mul (Nat.mul_le_mul (show d0 + 1 ≤ 5 by omega) (show d1 + 1 ≤ 5 by omega)) (show d2 + 1 ≤ 5 by omega)) (by decide); have hsz1 : (d0 + 1) * (d1 + 1) ≤ 25 := Nat.mul_le_mul (show d0 + 1 ≤ 5 by omega) (show d1 + 1 ≤ 5 by omega); refine A0 ?_; simp only [sS]; refine A0 ?_; simp only [sS]; refine (C46 lim s l h p L U H hl hs hL hU hn hn1 hn2).mono ?_; rintro dd H1 ⟨c, hc0, hc1, hdd, hx1⟩; rw [e0, e1, e2] at hdd; have hn1' := hx1.next; simp only [sS]; obtain ⟨w0, w0c⟩ := C0.at hdd (i := 0) (by simp); obtain ⟨w1, w1c⟩ := C0.at hdd (i := 1) (by simp); obtain ⟨w2, w2c⟩ := C0.at hdd (i := 2) (by simp); have w0' : F1 1 dd (.int .i64 0) = some (.pointer (some ⟨c, 0, none⟩)) := w0; have w1' : F1 1 dd (.int .i64 1) = some (.pointer (some ⟨c, 1, none⟩)) := w1; have w2' : F1 1 dd (.int .i64 2) = some (.pointer (some ⟨c, 2, none⟩)) := w2; have w0c' : H1.cell c 0 = some (.int .i64 d0) := w0c; have w1c' : H1.cell c 1 = some (.int .i64 d1) := w1c; have w2c' : H1.cell c 2 = some (.int .i64 d2) := w2c; have f0 : IntKind.i64.wrap ((d0 : Int) + 1) = ((d0 + 1 : Nat) : Int) := J0 (n := d0 + 1) (by omega); have f1 : IntKind.i64.wrap ((d1 : Int) + 1) = ((d1 + 1 : Nat) : Int) := J0 (n := d1 + 1) (by omega); have f2 : IntKind.i64.wrap ((d2 : Int) + 1) = ((d2 + 1 : Nat) : Int) := J0 (n := d2 + 1) (by omega); have f3 : IntKind.i64.wrap (((d0 + 1 : Nat) : Int) * ((d1 + 1 : Nat) : Int)) = (((d0 + 1) * (d1 + 1) : Nat) : Int) := J0 (n := (d0 + 1) * (d1 + 1)) (by omega); have f4 : IntKind.i64.wrap ((((d0 + 1) * (d1 + 1) : Nat) : Int) * ((d2 + 1 : Nat) : Int)) = (((d0 + 1) * (d1 + 1) * (d2 + 1) : Nat) : Int) := J0 (n := (d0 + 1) * (d1 + 1) * (d2 + 1)) (by omega); generalize hN : (d0 + 1) * (d1 + 1) * (d2 + 1) = N at *
 have hmk := A14 (H := H1) 8 N N [.int .i64 0] (Nat.le_refl _) (by omega) (by omega); rw [A1c] at hmk; refine A0 ?_; simp only [sS, w0', w1', w2', w0c', w1c', w2c', f0, f1, f2, f3, f4, hmk]; have hA : C0 (H1.alloc (List.replicate N (.int .i64 0))) H1.next (.slice (some ⟨H1.next, 0, some 0⟩) N N) (List.replicate N 0) := by
  show Vec _ _ _ (List.replicate N (0 : Int)).length 1 ((List.replicate N (0 : Int)).map vi); rw [List.length_replicate, List.map_replicate]; exact Vec.lit (by simp)
 have hx2 := Ext.alloc H1 (List.replicate N (.int .i64 0)); have hbl : H1.next < (H1.alloc (List.replicate N (.int .i64 0))).next := Nat.lt_succ_self _; generalize H1.alloc (List.replicate N (.int .i64 0)) = H2 at hA hx2 hbl ⊢; generalize (Value.slice (some ⟨H1.next, 0, some 0⟩) N N) = a at hA ⊢; generalize H1.next = bo at hA hbl hn1' hc1 ⊢; have hx12 := hx1.trans hx2; have hnx2 := hx2.next; have hdd2 := Vec.ext hdd hx2; clear hdd hmk w0 w1 w2 w0c w1c w2c w0c' w1c' w2c'; have hb3 : ∀ G : A1, E0 G 3 [.int .i64 0, .int .i64 0, .int .i64 0] [(0, 1, .int .i64 0), (1, 1, .int .i64 0), (2, 1, .int .i64 0)] = some (.slice (some ⟨G.next, 0, some 0⟩) 3 3, G.alloc [.int .i64 0, .int .i64 0, .int .i64 0]) := fun _ => rfl
 refine A0 ?_; simp only [sS, hb3]; have hv3 : C0 (H2.alloc [.int .i64 0, .int .i64 0, .int .i64 0]) H2.next (.slice (some ⟨H2.next, 0, some 0⟩) 3 3) [0, 0, 0] := Vec.lit rfl; have hx3 := Ext.alloc H2 [Value.int .i64 0, .int .i64 0, .int .i64 0]; have hlt3 : H2.next < (H2.alloc [Value.int .i64 0, .int .i64 0, .int .i64 0]).next := Nat.lt_succ_self _; generalize H2.alloc [Value.int .i64 0, .int .i64 0, .int .i64 0] = H3 at hv3 hx3 hlt3 ⊢; have hv4 : C0 (H3.alloc [.int .i64 0, .int .i64 0, .int .i64 0]) H3.next (.slice (some ⟨H3.next, 0, some 0⟩) 3 3) [0, 0, 0] := Vec.lit rfl; have hx4 := Ext.alloc H3 [Value.int .i64 0, .int .i64 0, .int .i64 0]; have hlt4 : H3.next < (H3.alloc [Value.int .i64 0, .int .i64 0, .int .i64 0]).next := Nat.lt_succ_self _; generalize H3.alloc [Value.int .i64 0, .int .i64 0, .int .i64 0] = H4 at hv4 hx4 hlt4 ⊢; generalize (Value.slice (some ⟨H2.next, 0, some 0⟩) 3 3) = lv at hv3 ⊢; generalize (Value.slice (some ⟨H3.next, 0, some 0⟩) 3 3) = mv at hv4 ⊢; generalize hlb : H2.next = lb at *
 generalize hmb : H3.next = mb at *
 replace hv3 := Vec.ext hv3 hx4; have hxa := (hx12.trans hx3).trans hx4; have hdd4 := Vec.ext (Vec.ext hdd2 hx3) hx4; have hA4 := Vec.ext (Vec.ext hA hx3) hx4; clear hdd2 hA; have hL1 := (show SlI H l L from hL).lenV; refine N9 (fun e' H' => ∃ y10 y11 y12 y13 y14 y15 y16 y17 y18 y19 y20 : Value, C0 H' c dd [(d0 : Int), (d1 : Int), (d2 : Int)] ∧ C0 H' bo a (List.replicate N 0) ∧ C0 H' lb lv [L.getD 0 0, L.getD 1 0, L.getD 2 0] ∧ C0 H' mb mv [U.getD 0 0, U.getD 1 0, U.getD 2 0] ∧ Ext H H' ∧ bo < H'.next ∧ mb < H'.next ∧
  e' = [s, l, h, .int .i64 k, .slice none 0 0, .slice none 0 0, dd, a, lv, mv, y10, y11, y12, y13, y14, y15, y16, y17, y18, y19, y20]) ?_ ?_
 ·refine A0 ?_; simp only [sS, hL1]; refine A8 ?_; refine B9 (fun j e' H' => ∃ (i : Nat) (y10 y11 y12 y13 y14 y15 y18 y19 y20 : Value), i + j = L.length ∧ C0 H' c dd [(d0 : Int), (d1 : Int), (d2 : Int)] ∧ C0 H' bo a (List.replicate N 0) ∧ C0 H' lb lv [if 0 < i then L.getD 0 0 else 0, if 1 < i then L.getD 1 0 else 0, if 2 < i then L.getD 2 0 else 0] ∧ C0 H' mb mv [if 0 < i then U.getD 0 0 else 0, if 1 < i then U.getD 1 0 else 0, if 2 < i then U.getD 2 0 else 0] ∧ Ext H H' ∧ bo < H'.next ∧ mb < H'.next ∧
   e' = [s, l, h, .int .i64 k, .slice none 0 0, .slice none 0 0, dd, a, lv, mv, y10, y11, y12, y13, y14, y15, .int .i64 L.length, .int .i64 i, y18, y19, y20]) L.length ⟨0, _, _, _, _, _, _, _, _, _, by omega, hdd4, hA4, hv3, hv4, hxa, by have := hx3.next; have := hx4.next; omega, hlt4, rfl⟩ ?_
  clear hdd4 hA4 hv3 hv4 hxa; rintro j e' H5 ⟨i, y10, y11, y12, y13, y14, y15, y18, y19, y20, hij, g1, g2, g3, g4, g5, g6, g7, rfl⟩; have hn5 := g5.next; refine A9 ?_; simp only [sS]; refine C4.split (fun hlt => ?_) (fun hlt => ?_)
  ·have hlt' : i < L.length := by simpa using hlt
   obtain ⟨p1, o1, u1, _, u2⟩ := SlI.get (show SlI H5 l L from hL.keep (T8.of_ext g5 (Nat.le_refl _)) (Nat.le_refl _)) hlt'; obtain ⟨q1, _⟩ := C0.at g3 (i := i) (by simp; omega); obtain ⟨cs, hst, g3'⟩ := C0.put (lim := lim) g3 (by omega) (i := i) (by simp; omega) L[i]; have hch : Chg lb H5 (H5.put lb cs) := Chg.put _ _ _; have g5' := Chg.ext g5 hch (by omega); obtain ⟨p2, o2, w1, _, w2⟩ := SlI.get (show SlI (H5.put lb cs) h U from hU.keep (T8.of_ext g5' (Nat.le_refl _)) (Nat.le_refl _)) (i := i) (by omega); obtain ⟨q2, _⟩ := C0.at (Vec.chg g4 hch (by omega)) (i := i) (by simp; omega); obtain ⟨cs2, hst2, g4'⟩ := C0.put (lim := lim) (Vec.chg g4 hch (by omega)) (by omega) (i := i) (by simp; omega) (U[i]'(by omega)); have hch2 : Chg mb (H5.put lb cs) ((H5.put lb cs).put mb cs2) := Chg.put _ _ _; refine A2 ?_; simp +decide only [sQ]; refine A8 ?_; refine A0 ?_; simp only [sS]; refine A0 ?_; simp only [sS, u1, u2, q1, hst]; refine A4 ?_; simp only [sS, w1, w2, q2, hst2]; simp +decide only [sQ]; refine A4 ?_; simp only [sS, D6 (i := i) (by omega)]; simp +decide only [sQ]; refine C6.mk (j - 1) (by omega) ⟨i + 1, _, _, _, _, _, _, _, _, _, by omega, Vec.chg (Vec.chg g1 hch (by omega)) hch2 (by omega), Vec.chg (Vec.chg g2 hch (by omega)) hch2 (by omega), Vec.chg ?_ hch2 (by omega), ?_, Chg.ext g5' hch2 (by omega), by have := hch.next; have := hch2.next; omega, by have := hch.next; have := hch2.next; omega, rfl⟩
   ·show C0 _ lb lv [if 0 < i + 1 then L.getD 0 0 else 0, if 1 < i + 1 then L.getD 1 0 else 0, if 2 < i + 1 then L.getD 2 0 else 0]; have e : L.getD i 0 = L[i] := by simp [hlt']
    rw [← e] at g3'; have hi3 : i = 0 ∨ i = 1 ∨ i = 2 := by omega
    rcases hi3 with rfl | rfl | rfl <;> simpa using g3'
   ·have e : U.getD i 0 = U[i]'(by omega) := by simp [show i < U.length by omega]
    rw [← e] at g4'; have hi3 : i = 0 ∨ i = 1 ∨ i = 2 := by omega
    rcases hi3 with rfl | rfl | rfl <;> simpa using g4'
  ·have hge : i = L.length := by simp at hlt; omega
   subst hge; refine B8 ?_; simp +decide only [sQ, reduceIte]; have hz : ∀ (M : List Int), M.length = L.length → ∀ k, (if k < L.length then M.getD k 0 else 0) = M.getD k 0 := by
    intro M hM k; split
    ·rfl
    ·rename_i hk; simp [show M.length ≤ k by omega]
   rw [hz L rfl, hz L rfl, hz L rfl] at g3; rw [hz U hn2, hz U hn2, hz U hn2] at g4; exact ⟨_, _, _, _, _, _, _, _, _, _, _, g1, g2, g3, g4, g5, g6, g7, rfl⟩
 ·rintro e' H5 ⟨y10, y11, y12, y13, y14, y15, y16, y17, y18, y19, y20, g1, g2, g3, g4, g5, g6, g7, rfl⟩; have hG0 : IsG d0 d1 d2 (List.replicate N 0) (A1z (([] : List Tm).map (tmC k (E5 (-1) p))) ⟨L.getD 0 0, U.getD 0 0, d0⟩ ⟨L.getD 1 0, U.getD 1 0, d1⟩ ⟨L.getD 2 0, U.getD 2 0, d2⟩) := ⟨by rw [List.length_replicate, hN], fun x y z _ _ _ => by rw [B6t]; rfl⟩; refine C7 (A0 ?_); simp only [sS, hs.lenV]; refine N9 (fun e' H' => ∃ (A : List Int) (y10 y11 y12 y13 y14 y15 y16 y17 y18 y19 y20 : Value), IsG d0 d1 d2 A (A1z (p.map (tmC k (E5 (-1) p))) ⟨L.getD 0 0, U.getD 0 0, d0⟩ ⟨L.getD 1 0, U.getD 1 0, d1⟩ ⟨L.getD 2 0, U.getD 2 0, d2⟩) ∧ C0 H' c dd [(d0 : Int), (d1 : Int), (d2 : Int)] ∧ C0 H' bo a A ∧ Ext H H' ∧ bo < H'.next ∧
   e' = [s, l, h, .int .i64 k, .slice none 0 0, .slice none 0 0, dd, a, lv, mv, y10, y11, y12, y13, y14, y15, y16, y17, y18, y19, y20]) ?_ ?_
  ·refine A8 ?_; refine B9 (fun j e' H' => ∃ (i : Nat) (A : List Int) (y10 y11 y12 y13 y14 y15 y16 y17 : Value), i + j = p.length ∧ IsG d0 d1 d2 A (A1z ((p.take i).map (tmC k (E5 (-1) p))) ⟨L.getD 0 0, U.getD 0 0, d0⟩ ⟨L.getD 1 0, U.getD 1 0, d1⟩ ⟨L.getD 2 0, U.getD 2 0, d2⟩) ∧ C0 H' c dd [(d0 : Int), (d1 : Int), (d2 : Int)] ∧ C0 H' bo a A ∧ C0 H' lb lv [L.getD 0 0, L.getD 1 0, L.getD 2 0] ∧ C0 H' mb mv [U.getD 0 0, U.getD 1 0, U.getD 2 0] ∧ Ext H H' ∧ bo < H'.next ∧ mb < H'.next ∧
    e' = [s, l, h, .int .i64 k, .slice none 0 0, .slice none 0 0, dd, a, lv, mv, y10, y11, y12, y13, y14, y15, y16, y17, s, .int .i64 p.length, .int .i64 i]) p.length ⟨0, _, _, _, _, _, _, _, _, _, by omega, hG0, g1, g2, g3, g4, g5, g6, g7, rfl⟩ ?_
   clear g1 g2 g3 g4 g5 g6 g7 hG0; rintro j e' H6 ⟨i, A, y10, y11, y12, y13, y14, y15, y16, y17, hij, hG, g1, g2, g3, g4, g5, g6, g7, rfl⟩; have hn6 := g5.next; refine A9 ?_; simp only [sS]; refine C4.split (fun hlt => ?_) (fun hlt => ?_)
   ·have hlt' : i < p.length := by simpa using hlt
    obtain ⟨b1', o1, h1', hat⟩ := (hs.ext g5).at hlt'; refine A2 ?_; simp +decide only [sQ]; refine A8 ?_; refine A0 ?_; simp only [sS, h1', hat.all, K8 (lim := lim) (H := H6) (by omega)]; have hB := J8.mk' H6 p[i]; generalize H6.alloc (tc p[i]) = H7 at hB ⊢; generalize H6.next = q at hB hn6 g6 g7 ⊢; refine A0 ?_; simp only [sS, Nat.zero_add, hB.c0, hB.c1, hB.c2, hB.c3]; obtain ⟨q1, q2, q3, q4, q5, q6⟩ := hp _ (List.getElem_mem hlt'); have hdi := hdeg _ (List.getElem_mem hlt'); obtain ⟨n, hnn⟩ : ∃ n : Nat, E5 (-1) p - p[i].x - p[i].y - p[i].z = n := ⟨(E5 (-1) p - p[i].x - p[i].y - p[i].z).toNat, by omega⟩; have k1 : IntKind.i64.wrap (E5 (-1) p - p[i].x) = E5 (-1) p - p[i].x := E3 (by omega) (by omega); have k2 : IntKind.i64.wrap (E5 (-1) p - p[i].x - p[i].y) = E5 (-1) p - p[i].x - p[i].y := E3 (by omega) (by omega); have k3 : IntKind.i64.wrap (E5 (-1) p - p[i].x - p[i].y - p[i].z) = n := by rw [hnn]; exact J0 (by omega)
    have k4 : IntKind.i64.wrap (p[i].c * wr (wr (2 ^ k) ^ n)) = wr (tmC k (E5 (-1) p) p[i]).1 := by
     rw [C5k]; unfold tmC; rw [hnn]; exact A54 _ _
    refine (C42 _ k H7 (by omega)).eq ?_; simp only [sS]; refine (C2r _ s p H7 (Nat.le_refl _) (hs.ext (g5.trans hB.ext)) hn hp).mono ?_; rintro _ H8 ⟨rfl, hx8⟩; simp only [sS, k1, k2, k3]; refine (B3f _ _ n H8 (by omega)).eq ?_; simp only [sS, k4]; replace hB := hB.mono hx8; have hx68 := hB.ext; have hn8 := hx68.next; replace g1 := Vec.ext g1 hx68; replace g2 := Vec.ext g2 hx68; replace g3 := Vec.ext g3 hx68; replace g4 := Vec.ext g4 hx68; have g5o := g5; replace g5 := g5.trans hx68; have hBH : J8 H H8 q p[i] := hB.low g5o; have g6' : bo < H8.next := by have := hB.lt; omega
    have g7' : mb < H8.next := by have := hB.lt; omega
    have hqb : q ≠ bo := by omega
    have hst : D1n H c bo lb mb q dd a lv mv d0 d1 d2 L U p[i] (A1z ((p.take i).map (tmC k (E5 (-1) p))) ⟨L.getD 0 0, U.getD 0 0, d0⟩ ⟨L.getD 1 0, U.getD 1 0, d1⟩ ⟨L.getD 2 0, U.getD 2 0, d2⟩) A H8 := ⟨hG, g1, g2, g3, g4, hBH, g6', g7'⟩; have hstep : (p.take (i + 1)).map (tmC k (E5 (-1) p)) = (p.take i).map (tmC k (E5 (-1) p)) ++ [tmC k (E5 (-1) p) p[i]] := by
     rw [List.take_succ_eq_append_getElem hlt', List.map_append]; rfl
    have hgs : ∀ x y z, A1z ((p.take (i + 1)).map (tmC k (E5 (-1) p))) ⟨L.getD 0 0, U.getD 0 0, d0⟩ ⟨L.getD 1 0, U.getD 1 0, d1⟩ ⟨L.getD 2 0, U.getD 2 0, d2⟩ x y z = A1z ((p.take i).map (tmC k (E5 (-1) p))) ⟨L.getD 0 0, U.getD 0 0, d0⟩ ⟨L.getD 1 0, U.getD 1 0, d1⟩ ⟨L.getD 2 0, U.getD 2 0, d2⟩ x y z + (tmC k (E5 (-1) p) p[i]).1 * prt (L.getD 0 0) (U.getD 0 0) p[i].x.toNat x * prt (L.getD 1 0) (U.getD 1 0) p[i].y.toNat y * prt (L.getD 2 0) (U.getD 2 0) p[i].z.toNat z := by
     intro x y z; rw [hstep]; unfold A1z; rw [W3]; simp [E8, tmC]
    refine A0 ?_; simp only [sS]; clear g1 g2 g3 g4 g5 g6 g7 hB hBH hG; generalize hct : (tmC k (E5 (-1) p) p[i]).1 = ct at *
    generalize hf0 : A1z ((p.take i).map (tmC k (E5 (-1) p))) ⟨L.getD 0 0, U.getD 0 0, d0⟩ ⟨L.getD 1 0, U.getD 1 0, d1⟩ ⟨L.getD 2 0, U.getD 2 0, d2⟩ = f0 at *
    generalize hf1 : A1z ((p.take (i + 1)).map (tmC k (E5 (-1) p))) ⟨L.getD 0 0, U.getD 0 0, d0⟩ ⟨L.getD 1 0, U.getD 1 0, d1⟩ ⟨L.getD 2 0, U.getD 2 0, d2⟩ = f1 at *
    obtain ⟨ex, hex⟩ : ∃ ex : Nat, p[i].x = ex := ⟨p[i].x.toNat, by omega⟩; obtain ⟨ey, hey⟩ : ∃ ey : Nat, p[i].y = ey := ⟨p[i].y.toNat, by omega⟩; obtain ⟨ez, hez⟩ : ∃ ez : Nat, p[i].z = ez := ⟨p[i].z.toNat, by omega⟩; rw [hex, hey, hez] at hgs; simp only [Int.toNat_natCast] at hgs; have m0 : (if (ex : Int) < (d0 : Int) then (ex : Int) else (d0 : Int)) = ((min ex d0 : Nat) : Int) := by split <;> omega
    have m1 : (if (ey : Int) < (d1 : Int) then (ey : Int) else (d1 : Int)) = ((min ey d1 : Nat) : Int) := by split <;> omega
    have m2 : (if (ez : Int) < (d2 : Int) then (ez : Int) else (d2 : Int)) = ((min ez d2 : Nat) : Int) := by split <;> omega
    generalize hT : (fun x y z => ct * prt (L.getD 0 0) (U.getD 0 0) ex x * prt (L.getD 1 0) (U.getD 1 0) ey y * prt (L.getD 2 0) (U.getD 2 0) ez z) = T; have hTv : ∀ x y z, T x y z = ct * prt (L.getD 0 0) (U.getD 0 0) ex x * prt (L.getD 1 0) (U.getD 1 0) ey y * prt (L.getD 2 0) (U.getD 2 0) ez z := by intro x y z; rw [← hT]
    have hT0 : ∀ x y z, x ≤ d0 → y ≤ d1 → z ≤ d2 → (ex < x ∨ ey < y ∨ ez < z) → T x y z = 0 := by
     intro x y z hx hy hz hc; rw [hTv]; rcases hc with hc | hc | hc
     ·rw [C4k _ _ (by omega) (by omega) hc]; simp
     ·rw [C4k _ _ (by omega) (by omega) hc]; simp
     ·rw [C4k _ _ (by omega) (by omega) hc]; simp
    refine A8 ?_; refine B9 (fun j e' H' => ∃ (x : Nat) (A : List Int) (y14 y15 : Value), x + j = min ex d0 + 1 ∧ D1n H c bo lb mb q dd a lv mv d0 d1 d2 L U p[i] (fun x' y' z' => f0 x' y' z' + if x' < x then T x' y' z' else 0) A H' ∧
     e' = [s, l, h, .int .i64 k, .slice none 0 0, .slice none 0 0, dd, a, lv, mv, y10, .pointer (some ⟨q, 0, none⟩), .int .i64 (wr ct), .int .i64 x, y14, y15, y16, y17, s, .int .i64 p.length, .int .i64 i]) (min ex d0 + 1) ⟨0, A, _, _, by omega, ⟨hst.1.congr fun x y z _ _ _ => by simp, hst.2⟩, rfl⟩ ?_
    clear hst; rintro j1 e' HX ⟨x, A, y14, y15, hxj, hst, rfl⟩; obtain ⟨hG, g1, g2, g3, g4, hB, g6, g7⟩ := hst; obtain ⟨w1, w2⟩ := C0.at g1 (i := 0) (by simp); have w1' : F1 1 dd (.int .i64 0) = some (.pointer (some ⟨c, 0, none⟩)) := w1; have w2' : HX.cell c 0 = some (.int .i64 d0) := w2; refine A9 ?_; simp only [sS, Nat.zero_add, hB.c1, w1', w2', hex]; refine (d4 _ _ _ _).eq ?_; simp only [sS, m0]; refine C4.split (fun hlt => ?_) (fun hlt => ?_)
    ·have hx0 : x ≤ min ex d0 := by simp at hlt; omega
     refine A2 ?_; simp +decide only [sQ]; refine A8 ?_; refine A0 ?_; simp only [sS]; refine A8 ?_; refine B9 (fun j e' H' => ∃ (y : Nat) (A : List Int) (y15 : Value), y + j = min ey d1 + 1 ∧ D1n H c bo lb mb q dd a lv mv d0 d1 d2 L U p[i] (fun x' y' z' => f0 x' y' z' + if x' < x ∨ (x' = x ∧ y' < y) then T x' y' z' else 0) A H' ∧
      e' = [s, l, h, .int .i64 k, .slice none 0 0, .slice none 0 0, dd, a, lv, mv, y10, .pointer (some ⟨q, 0, none⟩), .int .i64 (wr ct), .int .i64 x, .int .i64 y, y15, y16, y17, s, .int .i64 p.length, .int .i64 i]) (min ey d1 + 1) ⟨0, A, _, by omega, ⟨hG.congr fun x y z _ _ _ => by simp, g1, g2, g3, g4, hB, g6, g7⟩, rfl⟩ ?_
     clear hG g1 g2 g3 g4 hB g6 g7 w1 w2 w1' w2' hlt; rintro j2 e' HY ⟨y, A, y15, hyj, ⟨hG, g1, g2, g3, g4, hB, g6, g7⟩, rfl⟩; obtain ⟨w1, w2⟩ := C0.at g1 (i := 1) (by simp); have w1' : F1 1 dd (.int .i64 1) = some (.pointer (some ⟨c, 1, none⟩)) := w1; have w2' : HY.cell c 1 = some (.int .i64 d1) := w2; refine A9 ?_; simp only [sS, Nat.zero_add, hB.c2, w1', w2', hey]; refine (d4 _ _ _ _).eq ?_; simp only [sS, m1]; refine C4.split (fun hlt => ?_) (fun hlt => ?_)
     ·have hy0 : y ≤ min ey d1 := by simp at hlt; omega
      refine A2 ?_; simp +decide only [sQ]; refine A8 ?_; refine A0 ?_; simp only [sS]; refine A8 ?_; refine B9 (fun j e' H' => ∃ (z : Nat) (A : List Int), z + j = min ez d2 + 1 ∧ D1n H c bo lb mb q dd a lv mv d0 d1 d2 L U p[i] (fun x' y' z' => f0 x' y' z' + if x' < x ∨ (x' = x ∧ (y' < y ∨ (y' = y ∧ z' < z))) then T x' y' z' else 0) A H' ∧
       e' = [s, l, h, .int .i64 k, .slice none 0 0, .slice none 0 0, dd, a, lv, mv, y10, .pointer (some ⟨q, 0, none⟩), .int .i64 (wr ct), .int .i64 x, .int .i64 y, .int .i64 z, y16, y17, s, .int .i64 p.length, .int .i64 i]) (min ez d2 + 1) ⟨0, A, by omega, ⟨hG.congr fun x y z _ _ _ => by simp, g1, g2, g3, g4, hB, g6, g7⟩, rfl⟩ ?_
      clear hG g1 g2 g3 g4 hB g6 g7 w1 w2 w1' w2' hlt; rintro j3 e' HZ ⟨z, A, hzj, ⟨hG, g1, g2, g3, g4, hB, g6, g7⟩, rfl⟩; obtain ⟨w1, w2⟩ := C0.at g1 (i := 2) (by simp); have w1' : F1 1 dd (.int .i64 2) = some (.pointer (some ⟨c, 2, none⟩)) := w1; have w2' : HZ.cell c 2 = some (.int .i64 d2) := w2; refine A9 ?_; simp only [sS, Nat.zero_add, hB.c3, w1', w2', hez]; refine (d4 _ _ _ _).eq ?_; simp only [sS, m2]; refine C4.split (fun hlt => ?_) (fun hlt => ?_)
      ·have hz0 : z ≤ min ez d2 := by simp at hlt; omega
       obtain ⟨l0, l0c⟩ := C0.at g3 (i := 0) (by simp); obtain ⟨l1, l1c⟩ := C0.at g3 (i := 1) (by simp); obtain ⟨l2, l2c⟩ := C0.at g3 (i := 2) (by simp); obtain ⟨n0, n0c⟩ := C0.at g4 (i := 0) (by simp); obtain ⟨n1, n1c⟩ := C0.at g4 (i := 1) (by simp); obtain ⟨n2, n2c⟩ := C0.at g4 (i := 2) (by simp); have l0' : F1 1 lv (.int .i64 0) = some (.pointer (some ⟨lb, 0, none⟩)) := l0; have l1' : F1 1 lv (.int .i64 1) = some (.pointer (some ⟨lb, 1, none⟩)) := l1; have l2' : F1 1 lv (.int .i64 2) = some (.pointer (some ⟨lb, 2, none⟩)) := l2; have n0' : F1 1 mv (.int .i64 0) = some (.pointer (some ⟨mb, 0, none⟩)) := n0; have n1' : F1 1 mv (.int .i64 1) = some (.pointer (some ⟨mb, 1, none⟩)) := n1; have n2' : F1 1 mv (.int .i64 2) = some (.pointer (some ⟨mb, 2, none⟩)) := n2; have l0c' : HZ.cell lb 0 = some (.int .i64 (L.getD 0 0)) := l0c; have l1c' : HZ.cell lb 1 = some (.int .i64 (L.getD 1 0)) := l1c; have l2c' : HZ.cell lb 2 = some (.int .i64 (L.getD 2 0)) := l2c; have n0c' : HZ.cell mb 0 = some (.int .i64 (U.getD 0 0)) := n0c; have n1c' : HZ.cell mb 1 = some (.int .i64 (U.getD 1 0)) := n1c; have n2c' : HZ.cell mb 2 = some (.int .i64 (U.getD 2 0)) := n2c; have hgl : gp d1 d2 x y z < A.length := by rw [hG.1]; exact B9t (by omega) (by omega) (by omega)
       obtain ⟨v1, v2⟩ := C0.at g2 hgl; obtain ⟨cs, hst, g2'⟩ := C0.put (lim := lim) g2 (by omega) hgl (wr (A.getD (gp d1 d2 x y z) 0 + wr (T x y z))); have c1 : IntKind.i64.wrap (wr ct * wr (prt (L.getD 0 0) (U.getD 0 0) ex x)) = wr (ct * prt (L.getD 0 0) (U.getD 0 0) ex x) := B68 _ _; have c2 : IntKind.i64.wrap (wr (ct * prt (L.getD 0 0) (U.getD 0 0) ex x) * wr (prt (L.getD 1 0) (U.getD 1 0) ey y)) = wr (ct * prt (L.getD 0 0) (U.getD 0 0) ex x * prt (L.getD 1 0) (U.getD 1 0) ey y) := B68 _ _; have c3 : IntKind.i64.wrap (wr (ct * prt (L.getD 0 0) (U.getD 0 0) ex x * prt (L.getD 1 0) (U.getD 1 0) ey y) * wr (prt (L.getD 2 0) (U.getD 2 0) ez z)) = wr (T x y z) := by rw [hTv]; exact B68 _ _
       have c4 : IntKind.i64.wrap (A.getD (gp d1 d2 x y z) 0 + wr (T x y z)) = wr (A.getD (gp d1 d2 x y z) 0 + wr (T x y z)) := rfl; refine A2 ?_; simp +decide only [sQ]; refine A8 ?_; refine A4 ?_; simp only [sS, Nat.zero_add, hB.c1, hB.c2, hB.c3, l0', l1', l2', n0', n1', n2', l0c', l1c', l2c', n0c', n1c', n2c', hex, hey, hez]; refine (C7a _ dd d0 d1 d2 x y z HZ (Vec.sl g1) (by omega) (by omega) (by omega) (by omega) (by omega)).eq ?_; rw [show (x * (d1 + 1) + y) * (d2 + 1) + z = gp d1 d2 x y z from rfl]; simp only [sS, v1, v2]; refine (C1m _ _ _ ex x HZ (by omega) (by omega)).eq ?_; simp only [sS, c1]; refine (C1m _ _ _ ey y HZ (by omega) (by omega)).eq ?_; simp only [sS, c2]; refine (C1m _ _ _ ez z HZ (by omega) (by omega)).eq ?_; simp only [sS, c3, c4, v1, hst]; simp +decide only [sQ]; refine A4 ?_; simp only [sS, D6 (i := z) (by omega)]; simp +decide only [sQ]; have hch : Chg bo HZ (HZ.put bo cs) := Chg.put _ _ _; have hnz := hch.next; refine C6.mk (j3 - 1) (by omega) ⟨z + 1, _, by omega, ⟨(hG.add (by omega) (by omega) (by omega) (T x y z)).congr fun x' y' z' hx hy hz => ?_, Vec.chg g1 hch (by omega), g2', Vec.chg g3 hch (by omega), Vec.chg g4 hch (by omega), hB.chg hch (by omega) hqb, by omega, by omega⟩, rfl⟩; by_cases he : x' = x ∧ y' = y ∧ z' = z
       ·obtain ⟨rfl, rfl, rfl⟩ := he; simp
       ·rw [if_neg he, Int.add_zero]; by_cases hc : x' < x ∨ (x' = x ∧ (y' < y ∨ (y' = y ∧ z' < z)))
        ·rw [if_pos hc, if_pos (by omega)]
        ·rw [if_neg hc, if_neg (by omega)]
      ·have hge : z = min ez d2 + 1 := by simp at hlt; omega
       subst hge; refine B8 ?_; simp +decide only [sQ, reduceIte]; refine A4 ?_; simp only [sS, D6 (i := y) (by omega)]; simp +decide only [sQ]; refine C6.mk (j2 - 1) (by omega) ⟨y + 1, A, _, by omega, ⟨hG.congr fun x' y' z' hx hy hz => ?_, g1, g2, g3, g4, hB, g6, g7⟩, rfl⟩; by_cases hc : x' < x ∨ (x' = x ∧ (y' < y ∨ (y' = y ∧ z' < min ez d2 + 1)))
       ·rw [if_pos hc, if_pos (by omega)]
       ·rw [if_neg hc]; by_cases hc2 : x' < x ∨ (x' = x ∧ y' < y + 1)
        ·rw [if_pos hc2, hT0 x' y' z' hx hy hz (.inr (.inr (by omega)))]
        ·rw [if_neg hc2]
     ·have hge : y = min ey d1 + 1 := by simp at hlt; omega
      subst hge; refine B8 ?_; simp +decide only [sQ, reduceIte]; refine A4 ?_; simp only [sS, D6 (i := x) (by omega)]; simp +decide only [sQ]; refine C6.mk (j1 - 1) (by omega) ⟨x + 1, A, _, _, by omega, ⟨hG.congr fun x' y' z' hx hy hz => ?_, g1, g2, g3, g4, hB, g6, g7⟩, rfl⟩; by_cases hc : x' < x ∨ (x' = x ∧ y' < min ey d1 + 1)
      ·rw [if_pos hc, if_pos (by omega)]
      ·rw [if_neg hc]; by_cases hc2 : x' < x + 1
       ·rw [if_pos hc2, hT0 x' y' z' hx hy hz (.inr (.inl (by omega)))]
       ·rw [if_neg hc2]
    ·have hge : x = min ex d0 + 1 := by simp at hlt; omega
     subst hge; refine B8 ?_; simp +decide only [sQ, reduceIte]; refine A4 ?_; simp only [sS, D6 (i := i) (by omega)]; simp +decide only [sQ]; refine C6.mk (j - 1) (by omega) ⟨i + 1, A, _, _, _, _, _, _, _, _, by omega, hf1 ▸ hG.congr fun x' y' z' hx hy hz => ?_, g1, g2, g3, g4, hB.ext, g6, g7, rfl⟩; rw [hgs, ← hTv]; by_cases hc : x' < min ex d0 + 1
     ·rw [if_pos hc]
     ·rw [if_neg hc, hT0 x' y' z' hx hy hz (.inl (by omega))]
   ·have hge : i = p.length := by simp at hlt; omega
    subst hge; refine B8 ?_; simp +decide only [sQ, reduceIte]; rw [List.take_length] at hG; exact ⟨A, _, _, _, _, _, _, _, _, _, _, _, hG, g1, g2, g5, g6, rfl⟩
  ·rintro e' H6 ⟨A, y10, y11, y12, y13, y14, y15, y16, y17, y18, y19, y20, hG, g1, g2, g5, g6, rfl⟩; refine A0 ?_; simp only [sS]; refine A3 ?_; simp +decide only [sQ]; exact ⟨a, dd, bo, c, A, rfl, hn1', hc0, by omega, g6, hG, g2, g1, g5⟩
end Go.Proofs.YtmdeppkfboaepaaGreat
namespace Go.Proofs.YtmdeppkfboaepaaGreat
open Go.Ab Ints
theorem D25 {A : List Int} {σ : Int} (hne : A ≠ []) (h : ∀ v ∈ A, J5 v = σ) : sg A = σ := by
 obtain ⟨a, l, rfl⟩ : ∃ a l, A = a :: l := by cases A with
  | nil => exact absurd rfl hne
  | cons a l => exact ⟨a, l, rfl⟩
 have ha := h a (by simp); unfold sg; by_cases h1 : ∀ v ∈ a :: l, 0 < v
 ·rw [if_pos h1, ← ha]; have := h1 a (by simp); rcases M4 a with h | h | h <;> omega
 ·rw [if_neg h1]; by_cases h2 : ∀ v ∈ a :: l, v < 0
  ·rw [if_pos h2, ← ha]; have := h2 a (by simp); rcases M4 a with h | h | h <;> omega
  ·rw [if_neg h2]; rcases M4 a with h3 | h3 | h3
   ·exfalso
    refine h1 fun v hv => ?_
    have := h v hv; rcases M4 v with h | h | h <;> omega
   ·exfalso
    refine h2 fun v hv => ?_
    have := h v hv; rcases M4 v with h | h | h <;> omega
   ·omega
theorem C9j {A : List Int} {u v : Int} (hu : u ∈ A) (hv : v ∈ A) (h : J5 u ≠ J5 v) : sg A = 0 := by
 unfold sg; rw [if_neg, if_neg]
 ·intro hn; have h1 := hn u hu; have h2 := hn v hv; rcases M4 u with h3 | h3 | h3 <;> rcases M4 v with h4 | h4 | h4 <;> omega
 ·intro hn; have h1 := hn u hu; have h2 := hn v hv; rcases M4 u with h3 | h3 | h3 <;> rcases M4 v with h4 | h4 | h4 <;> omega
theorem C7z (lim : Nat) (s : Value) (A : List Int) (H : A1) (hs : SlI H s A) (hne : A ≠ []) (hn : A.length ≤ 1000000) :
 A5 Tryz.prog lim B8s [s] H fun v H' => v = .int .i64 (sg A) ∧ H' = H := by
 refine B7h.go rfl ?_; unfold A8k; have hpos : 0 < A.length := List.length_pos_iff.2 hne; obtain ⟨b0, o0, u0, _, u0c⟩ := hs.get hpos; have u0' : F1 1 s (.int .i64 0) = some (.pointer (some ⟨b0, o0, none⟩)) := u0; refine A0 ?_; simp only [sS]; refine A0 ?_; simp only [sS, u0', u0c]; refine (O9 _ _ _).eq ?_; simp only [sS]; refine C7 (A0 ?_); simp only [sS, hs.lenV]; refine A7 ?_; refine B9 (fun j e' H' => ∃ (i : Nat) (y : Value), i + j = A.length ∧ (∀ v ∈ A.take i, J5 v = J5 A[0]) ∧ H' = H ∧ e' = [s, .int .i64 0, .int .i64 (J5 A[0]), y, s, .int .i64 A.length, .int .i64 i]) A.length ⟨0, _, by omega, by simp, rfl, rfl⟩ ?_; rintro j e' H' ⟨i, y, hij, hall, rfl, rfl⟩; refine A9 ?_; simp only [sS]; refine C4.split (fun hlt => ?_) (fun hlt => ?_)
 ·have hlt' : i < A.length := by simpa using hlt
  obtain ⟨b1, o1, w, _, wc⟩ := hs.get hlt'; refine A2 ?_; simp +decide only [sQ]; refine A8 ?_; refine A0 ?_; simp only [sS, w, wc]; refine E1 ?_; simp only [sS]; refine (O9 _ _ _).eq ?_; simp only [sS]; refine C4.split (fun hd => ?_) (fun hd => ?_)
  ·have hd' : J5 A[i] ≠ J5 A[0] := by simpa using hd
   refine A0 ?_; simp only [sS]; refine A3 ?_; simp +decide only [sQ]; rw [C9j (List.getElem_mem hlt') (List.getElem_mem hpos) hd']; exact ⟨rfl, trivial⟩
  ·have hd' : J5 A[i] = J5 A[0] := by simpa using hd
   refine A2 ?_; simp +decide only [sQ]; refine A4 ?_; simp only [sS, D6 (i := i) (by omega)]; simp +decide only [sQ]; refine C6.mk (j - 1) (by omega) ⟨i + 1, _, by omega, ?_, rfl, rfl⟩; intro v hv; rw [List.take_succ_eq_append_getElem hlt'] at hv; rcases List.mem_append.1 hv with h | h
   ·exact hall v h
   ·rw [List.mem_singleton.1 h]; exact hd'
 ·have hge : i = A.length := by simp at hlt; omega
  subst hge; rw [List.take_length] at hall; refine B8 ?_; simp +decide only [sQ, reduceIte]; refine A0 ?_; simp only [sS]; refine A3 ?_; simp +decide only [sQ]; rw [D25 hne hall]; exact ⟨rfl, trivial⟩
end Go.Proofs.YtmdeppkfboaepaaGreat
