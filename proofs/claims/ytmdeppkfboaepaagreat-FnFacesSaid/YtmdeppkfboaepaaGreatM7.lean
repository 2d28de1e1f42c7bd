/- Parts of the proof of a statement of this seat: contracts of functions that the law calls, or the law's own row; no condition. -/
import Derived.Test.YtmdeppkfboaepaaGreatM6
set_option maxHeartbeats 8000000
set_option linter.unusedSimpArgs false
set_option linter.unusedVariables false
namespace Go.Proofs.YtmdeppkfboaepaaGreat
open Go.Ab Ints
theorem A8s (lim n k : Nat) (H : A1) (hn : n ≤ 4) (hk : k ≤ 4) : A5 Tryz.prog lim B8z [.int .i64 n, .int .i64 k] H fun v H' => v = .int .i64 (chs n k : Int) ∧ H' = H := by
 refine B7j.go rfl ?_; unfold A8f; refine A0 ?_; simp only [sS]; refine A0 ?_; simp only [sS]; refine C7 (A0 ?_); simp only [sS]; refine A7 ?_; have h0 : ((chs n 0 : Nat) : Int) = 1 := by cases n <;> rfl
 refine B9 (fun j e' H' => ∃ (i : Nat) (x4 : Value), i + j = k ∧ H' = H ∧ e' = [.int .i64 n, .int .i64 k, .int .i64 0, .int .i64 (chs n i : Int), x4, .int .i64 k, .int .i64 i]) k ⟨0, _, by omega, rfl, by rw [h0]; rfl⟩ ?_; rintro j e' H' ⟨i, x4, hij, rfl, rfl⟩; refine A9 ?_; simp only [sS]; refine C4.split (fun hlt => ?_) (fun hlt => ?_)
 ·have hlt' : i < k := by simpa using hlt
  have hne : ¬ ((i : Int) + 1 = 0) := by omega
  have e1 : IntKind.i64.wrap ((n : Int) - (i : Int)) = (n : Int) - (i : Int) := E3 (by omega) (by omega); have e2 : IntKind.i64.wrap ((i : Int) + 1) = (i : Int) + 1 := E3 (by omega) (by omega); have e3 := C2t ⟨n, by omega⟩ ⟨i, by omega⟩; simp only [wr] at e3; refine A2 ?_; simp +decide only [sQ]; refine A8 ?_; refine A0 ?_; simp only [sS]; refine A4 ?_; simp only [sS, e1, e2, hne, e3]; simp +decide only [sQ]; refine A4 ?_; simp only [sS, D6 (i := i) (by omega)]; simp +decide only [sQ]; exact C6.mk (j - 1) (by omega) ⟨i + 1, _, by omega, rfl, rfl⟩
 ·have hge : i = k := by simp at hlt; omega
  subst hge; refine B8 ?_; simp +decide only [sQ, reduceIte]; refine A0 ?_; simp only [sS]; refine A3 ?_; simp +decide only [sQ]
theorem C3l (lim d : Nat) (H : A1) (hd : d ≤ 4) : A5 Tryz.prog lim B4h [.int .i64 d] H fun v H' => v = .int .i64 (fac d : Int) ∧ H' = H := by
 refine B3e.go rfl ?_; unfold A46; refine A0 ?_; simp only [sS]; have hb : C9 [.int .i64 0, .int .i64 0, .int .i64 0, .int .i64 0, .int .i64 0] [(0, 1, .int .i64 1), (1, 1, .int .i64 1), (2, 1, .int .i64 2), (3, 1, .int .i64 3), (4, 1, .int .i64 12)] = some [.int .i64 1, .int .i64 1, .int .i64 2, .int .i64 3, .int .i64 12] := rfl; have ha : R1 5 1 (.agg #[.int .i64 1, .int .i64 1, .int .i64 2, .int .i64 3, .int .i64 12]) (.int .i64 d) = some (.int .i64 (fac d : Int)) := by
  match d, hd with
  | 0, _ => rfl
  | 1, _ => rfl
  | 2, _ => rfl
  | 3, _ => rfl
  | 4, _ => rfl
 refine A0 ?_; simp only [sS, hb]; simp only [sS, ha]; refine A3 ?_; simp +decide only [sQ]
theorem D4e (t : Tm) (u : Nat) : pw t (u : Int) = ex t u := by
 unfold pw ex
 match u with
 | 0 => rfl
 | 1 => rfl
 | u + 2 => rw [if_neg (by omega), if_neg (by omega), if_neg (by omega), if_neg (by omega)]
theorem B9l (k : Int) (t : Tm) : ∀ (l : List Tm) (m : Int), I3 k m (l ++ [t]) = if I3 k m l > pw t k then I3 k m l else pw t k
 | [], m => rfl
 | a :: l, m => by rw [List.cons_append, I3, B9l k t l, I3]
theorem C0d (t : Tm) : ∀ (l : List Tm) (m : Int), E5 m (l ++ [t]) = if E5 m l > t.x + t.y + t.z then E5 m l else t.x + t.y + t.z
 | [], m => rfl
 | a :: l, m => by rw [List.cons_append, E5, C0d t l, E5]
theorem D0w (a b : Int) : (if b > a then b else a) = if a > b then a else b := by
 by_cases h : b > a
 ·rw [if_pos h, if_neg (by omega)]
 ·rw [if_neg h]; by_cases h2 : a > b
  ·rw [if_pos h2]
  ·rw [if_neg h2]; omega
theorem C2a (lim : Nat) (s : Value) (p : List Tm) (H : A1) (hl : lim ≤ H.next) (hs : SlT H s p) (hn : p.length ≤ 1000000000) (hp : ∀ t ∈ p, 0 ≤ t.x ∧ t.x ≤ 4 ∧ 0 ≤ t.y ∧ t.y ≤ 4 ∧ 0 ≤ t.z ∧ t.z ≤ 4) :
 A5 Tryz.prog lim B33 [s] H fun v H' => v = .int .i64 (E5 (-1) p) ∧ Ext H H' := by
 refine B18.go rfl ?_; unfold A4n; refine A0 ?_; simp only [sS]; refine A0 ?_; simp only [sS]; refine C7 (A0 ?_); simp only [sS, hs.lenV]; refine A7 ?_; refine B9 (fun j e' H' => ∃ (i : Nat) (y : Value), i + j = p.length ∧ Ext H H' ∧ e' = [s, .int .i64 0, .int .i64 (E5 (-1) (p.take i)), y, s, .int .i64 p.length, .int .i64 i]) p.length ⟨0, _, by omega, Ext.refl _, rfl⟩ ?_; rintro j e' H' ⟨i, y, hik, hx, rfl⟩; have hnx := hx.next; refine A9 ?_; simp only [sS]; refine C4.split (fun hlt => ?_) (fun hlt => ?_)
 ·have hlt' : i < p.length := by simpa using hlt
  obtain ⟨b1, o1, h1, hat⟩ := (hs.ext hx).at hlt'; obtain ⟨q1, q2, q3, q4, q5, q6⟩ := hp _ (List.getElem_mem hlt'); refine A2 ?_; simp +decide only [sQ]; refine A7 ?_; refine A0 ?_; simp only [sS, h1, hat.all, K8 (lim := lim) (H := H') (by omega)]; have hB := J8.mk' H' p[i]; generalize H'.alloc (tc p[i]) = H1 at hB ⊢; generalize H'.next = q at hB hnx ⊢; have hx1 := hx.trans hB.ext; refine A4 ?_; simp only [sS, hB.all]; refine (A64 _ _ _ ⟨q1, q2⟩ ⟨q3, q4⟩ ⟨q5, q6⟩).mono ?_; rintro _ H2 ⟨rfl, hx2⟩; simp only [sS]; simp +decide only [sQ]; refine A4 ?_; simp only [sS, D6 (i := i) (by omega)]; simp +decide only [sQ]; refine C6.mk (j - 1) (by omega) ⟨i + 1, .pointer (some ⟨q, 0, none⟩), by omega, hx1.trans hx2, ?_⟩; rw [List.take_succ_eq_append_getElem hlt', C0d, D0w]
 ·have hge : i = p.length := by simp at hlt; omega
  subst hge; refine B8 ?_; simp +decide only [sQ, reduceIte]; refine A0 ?_; simp only [sS]; refine A3 ?_; simp +decide only [sQ]; rw [List.take_length]; exact ⟨rfl, hx⟩
theorem C6f {q n : Nat} (h : n ≤ 3) : R5 3 1 (.pointer (some ⟨q, 0, none⟩)) none (some (.int .i64 n)) none = some (.slice (some ⟨q, 0, some 0⟩) n 3) := by
 match n, h with
 | 0, _ => rfl
 | 1, _ => rfl
 | 2, _ => rfl
 | 3, _ => rfl
theorem C3a (t : Tm) : C8b t = .agg #[vi t.x, vi t.y, vi t.z] := rfl
theorem C63 {H : A1} {q : Nat} {t : Tm} (h : H.blk q = some [vi t.x, vi t.y, vi t.z]) {u : Nat} (hu : u < 3) : H.cell q (0 + u) = some (.int .i64 (ex t u)) := by
 rw [Nat.zero_add, B7 h]
 match u, hu with
 | 0, _ => rfl
 | 1, _ => rfl
 | 2, _ => rfl
theorem C0.mk' (H : A1) (n : Nat) : C0 (H.alloc (List.replicate n (.int .i64 0))) H.next (.slice (some ⟨H.next, 0, some 0⟩) n n) (List.replicate n 0) := by
 show Vec _ _ _ (List.replicate n (0 : Int)).length 1 ((List.replicate n (0 : Int)).map vi); rw [List.length_replicate, List.map_replicate]; exact Vec.lit (by simp)
theorem A2p {n u : Nat} (f g : Nat → Int) (hu : u < n) (h : ∀ k, k < n → k ≠ u → g k = f k) : ((List.range n).map f).set u (g u) = (List.range n).map g := by
 refine List.ext_getElem (by simp) fun k h1 h2 => ?_
 rw [List.getElem_set]; simp only [List.getElem_map, List.getElem_range]; simp only [List.length_set, List.length_map, List.length_range] at h1; split
 ·rename_i e; rw [e]
 ·rename_i e; exact (h k h1 (fun e' => e e'.symm)).symm
theorem C08 (lim : Nat) (s : Value) (p : List Tm) (n : Nat) (H : A1) (hl : lim ≤ H.next) (hs : SlT H s p) (hn : p.length ≤ 1000000000) (hn3 : n ≤ 3) :
 A5 Tryz.prog lim B16 [s, .int .i64 n] H fun v H' => ∃ b, H.next ≤ b ∧ b < H'.next ∧ C0 H' b v ((List.range n).map fun (k : Nat) => I3 k 0 p) ∧ Ext H H' := by
 refine B1g.go rfl ?_; unfold A21; refine A0 ?_; simp only [sS]; have hmk := A14 (H := H) 8 n n [.int .i64 0] (Nat.le_refl _) (by omega) (by omega); rw [A1c] at hmk; refine A0 ?_; simp only [sS, hmk]; have hv := C0.mk' H n; have hx := Ext.alloc H (List.replicate n (Value.int .i64 0)); have hbl : H.next < (H.alloc (List.replicate n (Value.int .i64 0))).next := Nat.lt_succ_self _; generalize H.alloc (List.replicate n (Value.int .i64 0)) = H1 at hv hx hbl ⊢; generalize (Value.slice (some ⟨H.next, 0, some 0⟩) n n) = v at hv ⊢; have e0 : List.replicate n (0 : Int) = (List.range n).map fun (k : Nat) => I3 k 0 (p.take 0) := by
  refine List.ext_getElem (by simp) fun k h1 h2 => ?_
  simp [I3]
 rw [e0] at hv; refine C7 (A0 ?_); simp only [sS, hs.lenV]; refine A7 ?_; refine B9 (fun j e' H' => ∃ (i : Nat) (x4 x5 x6 x7 x11 x12 x13 : Value), i + j = p.length ∧ C0 H' H.next v ((List.range n).map fun (k : Nat) => I3 k 0 (p.take i)) ∧ H.next < H'.next ∧ Ext H H' ∧ e' = [s, .int .i64 n, .slice none 0 0, v, x4, x5, x6, x7, s, .int .i64 p.length, .int .i64 i, x11, x12, x13]) p.length ⟨0, _, _, _, _, _, _, _, by omega, hv, hbl, hx, rfl⟩ ?_; clear hv hx hbl; rintro j e' H2 ⟨i, x4, x5, x6, x7, x11, x12, x13, hij, hv, hbl, hx, rfl⟩; have hnx := hx.next; refine A9 ?_; simp only [sS]; refine C4.split (fun hlt => ?_) (fun hlt => ?_)
 ·have hlt' : i < p.length := by simpa using hlt
  obtain ⟨b1, o1, h1, hat⟩ := (hs.ext hx).at hlt'; refine A2 ?_; simp +decide only [sQ]; refine A8 ?_; refine A0 ?_; simp only [sS, h1, hat.all, K8 (lim := lim) (H := H2) (by omega)]; have hB := J8.mk' H2 p[i]; generalize H2.alloc (tc p[i]) = H3 at hB ⊢; generalize H2.next = q at hB hnx hbl ⊢; have hxB := hB.ext; have hnB := hxB.next; have hlB := hB.lt; refine A0 ?_; simp only [sS, hB.all]; refine (A0j lim _ _ (by omega)).mono ?_; rintro _ H4 ⟨rfl, hx4⟩; have hn4 := hx4.next; simp only [sS, C3a, E7 (lim := lim) (H := H4) (by omega)]; have hq : (H4.alloc [vi p[i].x, vi p[i].y, vi p[i].z]).blk H4.next = some [vi p[i].x, vi p[i].y, vi p[i].z] := A6 _ _; have hx5 := Ext.alloc H4 [vi p[i].x, vi p[i].y, vi p[i].z]; have hlt5 : H4.next < (H4.alloc [vi p[i].x, vi p[i].y, vi p[i].z]).next := Nat.lt_succ_self _; generalize H4.alloc [vi p[i].x, vi p[i].y, vi p[i].z] = H5 at hq hx5 hlt5 ⊢; generalize H4.next = r at hq hlt5 hn4 ⊢; have hxa := ((hxB.trans hx4).trans hx5); have hv5 := Vec.ext hv hxa; have hxt := hx.trans hxa; have hvs : (List.range n).map (fun (k : Nat) => I3 k 0 (p.take i)) = (List.range n).map (fun (k : Nat) => if k < 0 then I3 k 0 (p.take (i + 1)) else I3 k 0 (p.take i)) := by simp
  refine A0 ?_; simp only [sS, C6f hn3, O6]; refine A8 ?_; refine B9 (fun j e' H' => ∃ (u : Nat) (x6 x7 : Value), u + j = n ∧ C0 H' H.next v ((List.range n).map fun (k : Nat) => if k < u then I3 k 0 (p.take (i + 1)) else I3 k 0 (p.take i)) ∧ H.next < H'.next ∧ Ext H H' ∧ H'.blk r = some [vi p[i].x, vi p[i].y, vi p[i].z] ∧ r < H'.next ∧ e' = [s, .int .i64 n, .slice none 0 0, v, .pointer (some ⟨q, 0, none⟩), .pointer (some ⟨r, 0, none⟩), x6, x7, s, .int .i64 p.length, .int .i64 i, .slice (some ⟨r, 0, some 0⟩) n 3, .int .i64 n, .int .i64 u]) n ⟨0, _, _, by omega, by rw [← hvs]; exact hv5, by have := hxt.next; omega, hxt, hq, hlt5, rfl⟩ ?_; clear hv5 hxt hq hlt5; rintro j2 e' H6 ⟨u, x6, x7, huj, hv, hbl6, hx6, hq, hrl, rfl⟩; refine A9 ?_; simp only [sS]; refine C4.split (fun hlt2 => ?_) (fun hlt2 => ?_)
  ·have hu : u < n := by simpa using hlt2
   obtain ⟨w1, w2⟩ := C0.at hv (i := u) (by simpa using hu); have hg : ((List.range n).map fun (k : Nat) => if k < u then I3 k 0 (p.take (i + 1)) else I3 k 0 (p.take i)).getD u 0 = I3 u 0 (p.take i) := by simp [hu]
   rw [hg] at w2; obtain ⟨cs, hst, hv'⟩ := C0.put (lim := lim) hv hl (i := u) (by simpa using hu) (I3 u 0 (p.take (i + 1))); have hmx : (if ex p[i] u > I3 u 0 (p.take i) then ex p[i] u else I3 u 0 (p.take i)) = I3 u 0 (p.take (i + 1)) := by
    rw [List.take_succ_eq_append_getElem hlt', B9l, D0w, D4e]
   refine A2 ?_; simp +decide only [sQ]; refine A8 ?_; refine A0 ?_; simp only [sS, A92 (i := u) .i64 hu, C63 hq (show u < 3 by omega)]; refine A4 ?_; simp only [sS, w1, w2, hmx, hst]; simp +decide only [sQ]; have hch : Chg H.next H6 (H6.put H.next cs) := Chg.put _ _ _; refine A4 ?_; simp only [sS, D6 (i := u) (by omega)]; simp +decide only [sQ]; refine C6.mk (j2 - 1) (by omega) ⟨u + 1, _, _, by omega, ?_, hbl6, Chg.ext hx6 hch (Nat.le_refl _), ?_, hrl, rfl⟩
   ·have es := A2p (n := n) (u := u) (fun (k : Nat) => if k < u then I3 k 0 (p.take (i + 1)) else I3 k 0 (p.take i)) (fun (k : Nat) => if k < u + 1 then I3 k 0 (p.take (i + 1)) else I3 k 0 (p.take i)) hu (fun k hk hne => by
     by_cases h : k < u
     ·simp [h, show k < u + 1 by omega]
     ·simp [h, show ¬ k < u + 1 by omega])
    simp only [show u < u + 1 by omega, if_true] at es; rw [es] at hv'; exact hv'
   ·rw [K5 _ _ (by omega)]; exact hq
  ·have hge : u = n := by simp at hlt2; omega
   subst hge; refine B8 ?_; simp +decide only [sQ, reduceIte]; refine A4 ?_; simp only [sS, D6 (i := i) (by omega)]; simp +decide only [sQ]; refine C6.mk (j - 1) (by omega) ⟨i + 1, _, _, _, _, _, _, _, by omega, ?_, hbl6, hx6, rfl⟩; have es : (List.range u).map (fun (k : Nat) => if k < u then I3 k 0 (p.take (i + 1)) else I3 k 0 (p.take i)) = (List.range u).map fun (k : Nat) => I3 k 0 (p.take (i + 1)) := List.map_congr_left fun k hk => by rw [if_pos (List.mem_range.1 hk)]
   rw [es] at hv; exact hv
 ·have hge : i = p.length := by simp at hlt; omega
  subst hge; refine B8 ?_; simp +decide only [sQ, reduceIte]; refine A0 ?_; simp only [sS]; refine A3 ?_; simp +decide only [sQ]; rw [List.take_length] at hv; exact ⟨H.next, Nat.le_refl _, hbl, hv, hx⟩
end Go.Proofs.YtmdeppkfboaepaaGreat
namespace Go.Proofs.YtmdeppkfboaepaaGreat
open Go.Ab Ints
def zl (l : List Nat) : List Int := l.map fun (n : Nat) => (n : Int)
theorem F4 (l : List Nat) : (zl l).length = l.length := by simp [zl]
theorem B0f (l : List Nat) (n : Nat) : zl (l ++ [n]) = zl l ++ [(n : Int)] := by simp [zl]
theorem B1v {α : Type} (c : Nat) : ∀ l : List α, (l.map fun _ => c).sum = l.length * c
 | [] => by simp
 | a :: l => by rw [List.map_cons, List.sum_cons, B1v c l, List.length_cons, Nat.succ_mul]; omega
theorem R9 : ∀ {ms : List Nat}, (∀ m ∈ ms, m ≤ 4) → (C5 ms).length ≤ 5 ^ ms.length
 | [], _ => by simp [C5]
 | m :: ms, h => by
   have ih := R9 (ms := ms) fun x hx => h x (by simp [hx])
   have hm := h m (by simp); have e : (C5 (m :: ms)).length = (m + 1) * (C5 ms).length := by
    rw [C5, List.length_flatMap]; simp only [List.length_map]; rw [B1v, List.length_range]
   rw [e, List.length_cons, Nat.pow_succ, Nat.mul_comm]; exact Nat.mul_le_mul ih (by omega)
def nxt (ll : List (List Nat)) (k : Nat) : List (List Int) := ll.flatMap fun l => (List.range (k + 1)).map fun n => zl (l ++ [n])
theorem C5b (ll : List (List Nat)) (k : Nat) : (nxt ll k).length = ll.length * (k + 1) := by
 unfold nxt; rw [List.length_flatMap]; simp only [List.length_map, List.length_range]; rw [B1v]
theorem C80 (ll : List (List Nat)) (l : List Nat) (k : Nat) : nxt (ll ++ [l]) k = nxt ll k ++ (List.range (k + 1)).map fun n => zl (l ++ [n]) := by
 simp [nxt]
theorem D11 (ms : List Nat) (k : Nat) : nxt (C5 ms) k = (C5 (ms ++ [k])).map zl := by
 rw [A3w, nxt, List.map_flatMap]
 congr 1
 funext l
 rw [List.map_map]; rfl
theorem A8t.atx {H : A1} {v : Value} {ss : List (List Int)} (h : A8t H v ss) {i : Nat} (hi : i < ss.length) : ∃ b o s, F1 1 v (.int .i64 i) = some (.pointer (some ⟨b, o, none⟩)) ∧ ∀ H', Ext H H' → H'.cell b o = some s ∧ SlI H' s ss[i] := by
 obtain ⟨vs, h1, h2⟩ := h; obtain ⟨b, o, g1, g2, g3⟩ := h1.cell .i64 (i := (i : Int)) (by omega) (by omega); obtain ⟨s, k1, k2⟩ := h2 i _ (List.getElem?_eq_getElem hi); rw [show (i : Int).toNat = i by omega, k1] at g3; refine ⟨b, o, s, g1, fun H' hx => ⟨?_, SlI.ext k2 hx⟩⟩; rw [← g3]; simp only [A1.cell, hx.blk _ g2]
theorem A8t.one (H : A1) : A8t (H.alloc [.slice none 0 0]) (.slice (some ⟨H.next, 0, some 0⟩) 1 1) [[]] := by
 refine ⟨[.slice none 0 0], Vec.sl (Vec.lit rfl), fun i p hp => ?_⟩
 match i, hp with
 | 0, hp =>
   simp at hp; subst hp; exact ⟨_, rfl, Sl.nil _ _⟩
theorem C76 (lim : Nat) (s : Value) (ds : List Nat) (H : A1) (hl : lim ≤ H.next) (hs : SlI H s (zl ds)) (hd : ∀ m ∈ ds, m ≤ 4) (hn : ds.length ≤ 3) :
 A5 Tryz.prog lim B87 [s] H fun v H' => A8t H' v ((C5 ds).map zl) ∧ Ext H H' := by
 refine B71.go rfl ?_; unfold A74; refine A0 ?_; simp only [sS]; refine A0 ?_; simp only [sS, L7 H (x := .slice none 0 0) (.slice none 0 0) rfl]; have h0 := A8t.one H; have hx0 := Ext.alloc H [Value.slice none 0 0]; generalize H.alloc [Value.slice none 0 0] = H1 at h0 hx0 ⊢; generalize (Value.slice (some ⟨H.next, 0, some 0⟩) 1 1) = o1 at h0 ⊢; have hsl := hs.lenV; rw [F4] at hsl; refine C7 (A0 ?_); simp only [sS, hsl]; refine A7 ?_; refine B9 (fun j e' H' => ∃ (i : Nat) (out x3 x4 x5 x6 x10 x11 x12 x13 x14 : Value), i + j = ds.length ∧ A8t H' out ((C5 (ds.take i)).map zl) ∧ Ext H H' ∧ e' = [s, .slice none 0 0, out, x3, x4, x5, x6, s, .int .i64 ds.length, .int .i64 i, x10, x11, x12, x13, x14]) ds.length ⟨0, o1, _, _, _, _, _, _, _, _, _, by omega, h0, hx0, rfl⟩ ?_; clear h0 hx0; rintro j e' H2 ⟨i, out, x3, x4, x5, x6, x10, x11, x12, x13, x14, hij, ho, hx, rfl⟩; have hnx := hx.next; refine A9 ?_; simp only [sS]; refine C4.split (fun hlt => ?_) (fun hlt => ?_)
 ·have hlt' : i < ds.length := by simpa using hlt
  obtain ⟨b1, o1, u1, _, u2⟩ := SlI.get (SlI.ext hs hx) (i := i) (by rw [F4]; exact hlt'); have hk : (zl ds)[i]'(by rw [F4]; exact hlt') = ((ds[i] : Nat) : Int) := by simp [zl]
  rw [hk] at u2; have hk4 := hd _ (List.getElem_mem hlt'); have htake := List.take_succ_eq_append_getElem hlt'; have hpl : (C5 (ds.take i)).length ≤ 25 := by
   have h1 := R9 (ms := ds.take i) fun m hm => hd m (List.mem_of_mem_take hm)
   have h2 : (5 : Nat) ^ (ds.take i).length ≤ 5 ^ 2 := Nat.pow_le_pow_right (by decide) (by rw [List.length_take]; omega); omega
  generalize ds[i] = k at *
  have hol := ho.lenV; rw [List.length_map] at hol; have w1 : IntKind.i64.wrap ((k : Int) + 1) = ((k + 1 : Nat) : Int) := J0 (n := k + 1) (by omega); refine A2 ?_; simp +decide only [sQ]; refine A8 ?_; refine A0 ?_; simp only [sS, u1, u2]; refine A0 ?_; simp only [sS]; refine C7 (A0 ?_); simp only [sS, hol]; refine A7 ?_; refine B9 (fun j2 e' H' => ∃ (m b : Nat) (vs : List Value) (bs : List Nat) (nx x5 x6 x13 x14 : Value), m + j2 = (C5 (ds.take i)).length ∧ M3 H' H2.next b vs bs nx (nxt ((C5 (ds.take i)).take m) k) ∧ Ext H2 H' ∧ e' = [s, .slice none 0 0, out, .int .i64 k, nx, x5, x6, s, .int .i64 ds.length, .int .i64 i, out, .int .i64 (C5 (ds.take i)).length, .int .i64 m, x13, x14]) (C5 (ds.take i)).length ⟨0, H2.next, [], [], .slice none 0 0, _, _, _, _, by omega, M3.nil' H2, Ext.refl _, rfl⟩ ?_; rintro j2 e' H3 ⟨m, b, vs, bs, nx, x5, x6, x13, x14, hmj, hg, hx3, rfl⟩; have hn3 := hx3.next; refine A9 ?_; simp only [sS]; refine C4.split (fun hlt2 => ?_) (fun hlt2 => ?_)
  ·have hml : m < (C5 (ds.take i)).length := by simpa using hlt2
   obtain ⟨b2, o2, ls, w2, w3⟩ := ho.atx (i := m) (by rw [List.length_map]; exact hml); simp only [List.getElem_map] at w3; have hmt := List.take_succ_eq_append_getElem hml; have hll := P1 _ _ (List.getElem_mem hml); have hll3 : (C5 (ds.take i))[m].length ≤ 3 := by rw [hll, List.length_take]; omega
   have hnl := C5b ((C5 (ds.take i)).take m) k; rw [List.length_take, Nat.min_eq_left (by omega)] at hnl; have hnl2 : m * (k + 1) ≤ 25 * 5 := Nat.mul_le_mul (by omega) (by omega); generalize (C5 (ds.take i))[m] = l at *
   refine A2 ?_; simp +decide only [sQ]; refine A8 ?_; refine A0 ?_; simp only [sS, w2, (w3 _ hx3).1]; refine A0 ?_; simp only [sS, w1]; refine A8 ?_; refine B9 (fun j3 e' H' => ∃ (n b : Nat) (vs : List Value) (bs : List Nat) (nx x6 : Value), n + j3 = k + 1 ∧ M3 H' H2.next b vs bs nx (nxt ((C5 (ds.take i)).take m) k ++ (List.range n).map fun n => zl (l ++ [n])) ∧ Ext H2 H' ∧ e' = [s, .slice none 0 0, out, .int .i64 k, nx, ls, x6, s, .int .i64 ds.length, .int .i64 i, out, .int .i64 (C5 (ds.take i)).length, .int .i64 m, .int .i64 (k + 1 : Nat), .int .i64 n]) (k + 1) ⟨0, b, vs, bs, nx, _, by omega, by simpa using hg, hx3, rfl⟩ ?_; clear hg; rintro j3 e' H4 ⟨n, b, vs, bs, nx, x6, hnj, hg, hx4, rfl⟩; have hn4 := hx4.next; refine A9 ?_; simp only [sS]; refine C4.split (fun hlt3 => ?_) (fun hlt3 => ?_)
   ·have hnk : n < k + 1 := by simp at hlt3; omega
    have hlen : (nxt ((C5 (ds.take i)).take m) k ++ (List.range n).map fun n => zl (l ++ [n])).length ≤ 1000 := by
     rw [List.length_append, List.length_map, List.length_range, hnl]; omega
    refine A2 ?_; simp +decide only [sQ]; refine A8 ?_; refine A0 ?_; simp only [sS]; refine A4 ?_; simp only [sS]; refine (Ints.N3 lim ls (zl l) H4 (by omega) (w3 _ hx4).2 (by rw [F4]; omega)).mono ?_; rintro cl H5 ⟨c, hc1, hc2, hcl, hx5⟩; have hn5 := hx5.next; obtain ⟨v6, H6, c6, e6, hv6, hc6, hlt6, ch6, n6⟩ := n5 (lim := lim) (bytes := 8) hcl (.int .i64 (n : Int)) (by omega) (by rw [F4]; omega); have hx6 := Chg.ext hx5 ch6 hc1; have hn6 := hx6.next; have hv6' : C0 H6 c6 v6 (zl (l ++ [n])) := by
     rw [B0f]; exact C0.snoc hv6
    obtain ⟨v7, H7, b7, e7, hg7, hx7⟩ := M3.push (lim := lim) hg (by omega) hx4 (Nat.le_refl _) hn4 hx6 (by rcases hc6 with h | h <;> omega) (by omega) hv6' (by omega); simp only [sS, L7 _ (.int .i64 0) (x := .int .i64 (n : Int)) rfl, e6, L7 _ (.slice none 0 0) (x := v6) (Vec.cellsV hv6'), e7]; simp +decide only [sQ]; refine A4 ?_; simp only [sS, D6 (i := n) (by omega)]; simp +decide only [sQ]; refine C6.mk (j3 - 1) (by omega) ⟨n + 1, b7, vs ++ [v6], bs ++ [c6], v7, .int .i64 n, by omega, ?_, hx7, rfl⟩; rw [List.range_succ, List.map_append, ← List.append_assoc]; exact hg7
   ·have hge : n = k + 1 := by simp at hlt3; omega
    subst hge; refine B8 ?_; simp +decide only [sQ, reduceIte]; refine A4 ?_; simp only [sS, D6 (i := m) (by omega)]; simp +decide only [sQ]; refine C6.mk (j2 - 1) (by omega) ⟨m + 1, b, vs, bs, nx, _, _, _, _, by omega, ?_, hx4, rfl⟩; rw [hmt, C80]; exact hg
  ·have hge : m = (C5 (ds.take i)).length := by simp at hlt2; omega
   subst hge; refine B8 ?_; simp +decide only [sQ, reduceIte]; refine A4 ?_; simp only [sS]; simp +decide only [sQ]; refine A4 ?_; simp only [sS, D6 (i := i) (by omega)]; simp +decide only [sQ]; refine C6.mk (j - 1) (by omega) ⟨i + 1, nx, _, _, _, _, _, _, _, _, _, by omega, ?_, hx.trans hx3, rfl⟩; rw [htake, ← D11]; rw [List.take_length] at hg; exact hg.own.slss
 ·have hge : i = ds.length := by simp at hlt; omega
  subst hge; refine B8 ?_; simp +decide only [sQ, reduceIte]; refine A0 ?_; simp only [sS]; refine A3 ?_; simp +decide only [sQ]; rw [List.take_length] at ho; exact ⟨ho, hx⟩
end Go.Proofs.YtmdeppkfboaepaaGreat
namespace Go.Proofs.YtmdeppkfboaepaaGreat
open Go.Ab Ints
theorem B7t : ∀ (xs : List Ax) (es js : List Nat) (u : Nat) (hu : u < xs.length), es.length = xs.length → js.length = xs.length →
 O8 (xs.take (u + 1)) (es.take (u + 1)) (js.take (u + 1)) = O8 (xs.take u) (es.take u) (js.take u) * prt xs[u].lo xs[u].hi (es.getD u 0) (js.getD u 0)
 | [], _, _, _, hu, _, _ => by simp at hu
 | a :: xs, [], _, _, _, h, _ => by simp at h
 | a :: xs, e :: es, [], _, _, _, h => by simp at h
 | a :: xs, e :: es, j :: js, 0, _, _, _ => by simp [O8]
 | a :: xs, e :: es, j :: js, u + 1, hu, h1, h2 => by
   simp only [List.take_succ_cons, O8]; rw [B7t xs es js u (by simpa using hu) (by simpa using h1) (by simpa using h2), Int.mul_assoc]; simp
theorem B5s : ∀ (xs : List Ax) (is js : List Nat) (u : Nat) (hu : u < xs.length), is.length = xs.length → js.length = xs.length →
 X0 (xs.take (u + 1)) (is.take (u + 1)) (js.take (u + 1)) = X0 (xs.take u) (is.take u) (js.take u) * wgt xs[u].d (is.getD u 0) (js.getD u 0)
 | [], _, _, _, hu, _, _ => by simp at hu
 | a :: xs, [], _, _, _, h, _ => by simp at h
 | a :: xs, e :: es, [], _, _, _, h => by simp at h
 | a :: xs, e :: es, j :: js, 0, _, _, _ => by simp [X0]
 | a :: xs, e :: es, j :: js, u + 1, hu, h1, h2 => by
   simp only [List.take_succ_cons, X0]; rw [B5s xs es js u (by simpa using hu) (by simpa using h1) (by simpa using h2), Int.mul_assoc]; simp
def aF (n k : Nat) (p : List Tm) (L U : List Int) (i : Nat) (js : List Nat) : Int := wr (E8 (fun t => t.1 * O8 (axN p L U n) t.2 js) ((M6 n k p).take i))
def oF (n k : Nat) (p : List Tm) (L U : List Int) (is : List Nat) (pl : List (List Nat)) : Int := wr (E8 (fun js => aF n k p L U p.length js * X0 (axN p L U n) is js) pl)
theorem A8o (n k : Nat) (p : List Tm) : (M6 n k p).length = p.length := by simp [M6]
theorem D2a {n k : Nat} {p : List Tm} {L U : List Int} {i : Nat} (hi : i < p.length) (js : List Nat) :
 aF n k p L U (i + 1) js = wr (aF n k p L U i js + wr ((tmC k (E5 (-1) p) p[i]).1 * O8 (axN p L U n) ((tmC k (E5 (-1) p) p[i]).2.take n) js)) := by
 unfold aF; rw [List.take_succ_eq_append_getElem (by rw [A8o]; exact hi), W3, C1e]; simp [M6, E8]
theorem D07 {n k : Nat} {p : List Tm} {L U : List Int} (is js : List Nat) (pl : List (List Nat)) :
 oF n k p L U is (pl ++ [js]) = wr (oF n k p L U is pl + wr (aF n k p L U p.length js * X0 (axN p L U n) is js)) := by
 unfold oF; rw [W3, C1e]; simp [E8]
theorem M7 (p : List Tm) (L U : List Int) (n : Nat) : (axN p L U n).length = n := by simp [axN]
theorem C6h {p : List Tm} {L U : List Int} {n u : Nat} (h : u < (axN p L U n).length) : (axN p L U n)[u] = axI p L U u := by simp [axN]
theorem C0h (p : List Tm) (L U : List Int) (n : Nat) : (axN p L U n).map (·.d) = (List.range n).map (dgI p) := by
 simp [axN, axI, Function.comp_def]
theorem C4t {n k : Nat} {p : List Tm} (hn : n ≤ 3) : ∀ t ∈ M6 n k p, t.2.length = n := by
 intro t ht; obtain ⟨u, _, rfl⟩ := List.mem_map.1 ht; simp [tmC]; omega
theorem D34 {n k : Nat} {p : List Tm} {L U : List Int} (hn : n ≤ 3) {is : List Nat} (his : is.length = n) :
 oF n k p L U is (C5 ((axN p L U n).map (·.d))) = wr (Q5 (M6 n k p) (axN p L U n) is) := by
 unfold oF aF; rw [show p.length = (M6 n k p).length from (A8o n k p).symm, List.take_length]; rw [← B09 (fun js => wr (E8 (fun t => t.1 * O8 (axN p L U n) t.2 js) (M6 n k p)) * X0 (axN p L U n) is js)]; simp only [Y0]; rw [B09 (fun js => E8 (fun t => t.1 * O8 (axN p L U n) t.2 js) (M6 n k p) * X0 (axN p L U n) is js)]
 congr 1
 have e1 : ∀ js, E8 (fun t => t.1 * O8 (axN p L U n) t.2 js) (M6 n k p) * X0 (axN p L U n) is js = E8 (fun t => t.1 * (O8 (axN p L U n) t.2 js * X0 (axN p L U n) is js)) (M6 n k p) := by
  intro js; rw [← B6r]; exact I2 fun t _ => Int.mul_assoc _ _ _
 simp only [e1]; rw [B1z]; unfold Q5; refine I2 fun t ht => ?_
 rw [A06, D4j _ _ _ (by rw [M7]; exact C4t hn t ht) (by rw [M7]; exact his)]
end Go.Proofs.YtmdeppkfboaepaaGreat
namespace Go.Proofs.YtmdeppkfboaepaaGreat
open Go.Ab Ints
structure BnS (H2 H' : A1) (b q r : Nat) (av : Value) (A : List Int) (t : Tm) : Prop where
 ext : Ext H2 H'
 vec : C0 H' b av A
 bq : H'.blk q = some (tc t)
 br : H'.blk r = some [vi t.x, vi t.y, vi t.z]
 lt : q < H'.next ∧ r < H'.next
 ne : q ≠ b ∧ r ≠ b
theorem BnS.mono {H2 H' H'' : A1} {b q r : Nat} {av : Value} {A : List Int} {t : Tm} (h : BnS H2 H' b q r av A t) (hx : Ext H' H'') : BnS H2 H'' b q r av A t := by
 obtain ⟨h1, h2, h3, h4, h5, h6⟩ := h; have := hx.next; exact ⟨h1.trans hx, Vec.ext h2 hx, by rw [hx.blk _ h5.1]; exact h3, by rw [hx.blk _ h5.2]; exact h4, by omega, h6⟩
theorem BnS.put {lim : Nat} {H2 H' : A1} {b q r : Nat} {av : Value} {A : List Int} {t : Tm} (h : BnS H2 H' b q r av A t) (hl : lim ≤ b) (hb : H2.next ≤ b) {i : Nat} (hi : i < A.length) (x : Int) :
 ∃ cs, C8 lim H' 1 (.pointer (some ⟨b, i, none⟩)) (.int .i64 x) = some (undef, H'.put b cs) ∧ BnS H2 (H'.put b cs) b q r av (A.set i x) t := by
 obtain ⟨h1, h2, h3, h4, h5, h6⟩ := h; obtain ⟨cs, g1, g2⟩ := C0.put (lim := lim) h2 hl hi x; exact ⟨cs, g1, Chg.ext h1 (Chg.put _ _ _) hb, g2, by rw [K5 _ _ h6.1]; exact h3, by rw [K5 _ _ h6.2]; exact h4, h5, h6⟩
theorem D4k {k m : Nat} (c : Int) (h : k * m ≤ 60) : ¬ (((k * m : Nat) : Int) < 0) ∧ IntKind.i64.wrap (c * 2 ^ min ((k * m : Nat) : Int).toNat IntKind.i64.bits) = wr (c * ((2 : Int) ^ k) ^ m) := by
 have : min ((k * m : Nat) : Int).toNat IntKind.i64.bits = k * m := by
  show min ((k * m : Nat) : Int).toNat 64 = k * m; omega
 rw [this, Int.pow_mul]; exact ⟨by omega, rfl⟩
def gAW (n k : Nat) (p : List Tm) (L U : List Int) (PL : List (List Nat)) (i x : Nat) : List Int := (List.range PL.length).map fun y => if y < x then aF n k p L U (i + 1) (PL.getD y []) else aF n k p L U i (PL.getD y [])
theorem B3h (n k : Nat) (p : List Tm) (L U : List Int) (PL : List (List Nat)) (i x : Nat) : (gAW n k p L U PL i x).length = PL.length := by simp [gAW]
theorem D4f {n k : Nat} {p : List Tm} {L U : List Int} {PL : List (List Nat)} {i x : Nat} (h : x < PL.length) : (gAW n k p L U PL i x).getD x 0 = aF n k p L U i (PL.getD x []) := by simp [gAW, h]
theorem D01 {n k : Nat} {p : List Tm} {L U : List Int} {PL : List (List Nat)} {i y : Nat} (h : y < PL.length) : (gAW n k p L U PL i 0).getD y 0 = aF n k p L U i (PL.getD y []) := by simp [gAW, h]
theorem D2s {n k : Nat} {p : List Tm} {L U : List Int} {PL : List (List Nat)} {i x : Nat} (h : x < PL.length) : (gAW n k p L U PL i x).set x (aF n k p L U (i + 1) (PL.getD x [])) = gAW n k p L U PL i (x + 1) := by
 unfold gAW; have es := A2p (n := PL.length) (u := x) (fun y => if y < x then aF n k p L U (i + 1) (PL.getD y []) else aF n k p L U i (PL.getD y [])) (fun y => if y < x + 1 then aF n k p L U (i + 1) (PL.getD y []) else aF n k p L U i (PL.getD y [])) h (fun y hy hne => by
  by_cases h : y < x
  ·simp [h, show y < x + 1 by omega]
  ·simp [h, show ¬ y < x + 1 by omega])
 simp only [show x < x + 1 by omega, if_true] at es; exact es
theorem D1y (n k : Nat) (p : List Tm) (L U : List Int) (PL : List (List Nat)) (i : Nat) : gAW n k p L U PL i PL.length = gAW n k p L U PL (i + 1) 0 := by
 unfold gAW; refine List.map_congr_left fun y hy => ?_
 rw [if_pos (List.mem_range.1 hy), if_neg (by omega)]
theorem D1m (p : List Tm) (L U : List Int) (n : Nat) : ((List.range n).map fun (k : Nat) => I3 k 0 p) = zl ((axN p L U n).map (·.d)) := by
 rw [C0h, zl, List.map_map]; exact List.map_congr_left fun k _ => (B0d p k).symm
theorem C52 {H : A1} {v : Value} {l : List Nat} (h : SlI H v (zl l)) {i : Nat} (hi : i < l.length) : ∃ b o, F1 1 v (.int .i64 i) = some (.pointer (some ⟨b, o, none⟩)) ∧ H.cell b o = some (.int .i64 ((l.getD i 0 : Nat) : Int)) := by
 obtain ⟨b, o, h1, _, h3⟩ := SlI.get h (i := i) (by rw [F4]; exact hi); refine ⟨b, o, h1, ?_⟩; rw [h3]; simp [zl, hi]
theorem X7 {H : A1} {v : Value} {l : List Int} (h : SlI H v l) {i : Nat} (hi : i < l.length) : ∃ b o, F1 1 v (.int .i64 i) = some (.pointer (some ⟨b, o, none⟩)) ∧ H.cell b o = some (.int .i64 (l.getD i 0)) := by
 obtain ⟨b, o, h1, _, h3⟩ := SlI.get h hi; refine ⟨b, o, h1, ?_⟩; rw [h3]; simp [hi]
theorem D3d {t : Tm} {k : Nat} {deg : Int} (h : 0 ≤ t.x ∧ t.x ≤ 4 ∧ 0 ≤ t.y ∧ t.y ≤ 4 ∧ 0 ≤ t.z ∧ t.z ≤ 4) {n u : Nat} (hu : u < n) (hn : n ≤ 3) : ∃ e : Nat, ex t u = e ∧ e ≤ 4 ∧ ((tmC k deg t).2.take n).getD u 0 = e := by
 have h3 : u = 0 ∨ u = 1 ∨ u = 2 := by omega
 rcases h3 with rfl | rfl | rfl
 ·refine ⟨t.x.toNat, by simp [ex]; omega, by omega, ?_⟩
  match n, hu with
  | n + 1, _ => simp [tmC]
 ·refine ⟨t.y.toNat, by simp [ex]; omega, by omega, ?_⟩
  match n, hu with
  | n + 2, _ => simp [tmC]
 ·refine ⟨t.z.toNat, by simp [ex]; omega, by omega, ?_⟩
  match n, hu with
  | n + 3, _ => simp [tmC]
theorem C9y {k n : Nat} {deg : Int} {t : Tm} (hn : n ≤ 3) : ((tmC k deg t).2.take n).length = n := by simp [tmC]; omega
theorem C0w {ms l : List Nat} (h : l ∈ C5 ms) (hm : ∀ m ∈ ms, m ≤ 4) {u : Nat} (hu : u < ms.length) : l.getD u 0 ≤ ms.getD u 0 ∧ ms.getD u 0 ≤ 4 := by
 obtain ⟨h1, h2⟩ := S1.1 h; have e1 : ms[u]? = some ms[u] := List.getElem?_eq_getElem hu; have e2 : l[u]? = some (l[u]'(by omega)) := List.getElem?_eq_getElem (by omega); have := h2 u _ _ e2 e1; have h4 := hm _ (List.getElem_mem hu); simp only [List.getD_eq_getElem?_getD, e1, e2, Option.getD_some]; exact ⟨this, h4⟩
theorem C8m : ∀ d : Fin 5, ∀ i : Fin 5, ∀ j : Fin 5, i.val ≤ d.val → j.val ≤ d.val → chs d.val j.val ≠ 0 ∧ wr (wr ((fac d.val : Int).tdiv (chs d.val j.val : Int)) * (chs i.val j.val : Int)) = wgt d.val i.val j.val := by decide +kernel
def oG (n k : Nat) (p : List Tm) (L U : List Int) (PL : List (List Nat)) (x y : Nat) : List Int := (List.range PL.length).map fun z => if z < x then oF n k p L U (PL.getD z []) PL else if z = x then oF n k p L U (PL.getD z []) (PL.take y) else 0
theorem B9x (n k : Nat) (p : List Tm) (L U : List Int) (PL : List (List Nat)) (x y : Nat) : (oG n k p L U PL x y).length = PL.length := by simp [oG]
theorem D47 {n k : Nat} {p : List Tm} {L U : List Int} {PL : List (List Nat)} {x y : Nat} (h : x < PL.length) : (oG n k p L U PL x y).getD x 0 = oF n k p L U (PL.getD x []) (PL.take y) := by simp [oG, h]
theorem D3w {n k : Nat} {p : List Tm} {L U : List Int} {PL : List (List Nat)} {x y : Nat} (h : x < PL.length) : (oG n k p L U PL x y).set x (oF n k p L U (PL.getD x []) (PL.take (y + 1))) = oG n k p L U PL x (y + 1) := by
 unfold oG; have es := A2p (n := PL.length) (u := x) (fun z => if z < x then oF n k p L U (PL.getD z []) PL else if z = x then oF n k p L U (PL.getD z []) (PL.take y) else 0) (fun z => if z < x then oF n k p L U (PL.getD z []) PL else if z = x then oF n k p L U (PL.getD z []) (PL.take (y + 1)) else 0) h (fun z hz hne => by simp [hne]); simp only [show ¬ x < x by omega, if_true, if_false] at es; exact es
theorem D18 (n k : Nat) (p : List Tm) (L U : List Int) (PL : List (List Nat)) (x : Nat) : oG n k p L U PL x PL.length = oG n k p L U PL (x + 1) 0 := by
 unfold oG; refine List.map_congr_left fun z hz => ?_
 by_cases h1 : z < x
 ·rw [if_pos h1, if_pos (by omega)]
 ·rw [if_neg h1]; by_cases h2 : z = x
  ·subst h2; rw [if_pos rfl, if_pos (by omega), List.take_length]
  ·rw [if_neg h2, if_neg (by omega)]; split <;> rfl
theorem D03 (n k : Nat) (p : List Tm) (L U : List Int) (PL : List (List Nat)) : List.replicate PL.length (0 : Int) = oG n k p L U PL 0 0 := by
 unfold oG; refine List.ext_getElem (by simp) fun z h1 h2 => ?_
 simp only [List.getElem_replicate, List.getElem_map, List.getElem_range]; rw [if_neg (by omega)]; split <;> rfl
theorem D3p {n k : Nat} {p : List Tm} {L U : List Int} {PL : List (List Nat)} (g : List Nat → Int) (h : ∀ is ∈ PL, oF n k p L U is PL = g is) : oG n k p L U PL PL.length 0 = PL.map g := by
 unfold oG; refine List.ext_getElem (by simp) fun z h1 h2 => ?_
 simp only [List.getElem_map, List.getElem_range]; have hz : z < PL.length := by simpa using h1
 rw [if_pos hz, ← h _ (List.getElem_mem hz)]; simp [hz]
theorem B0z (lim : Nat) (s lo hi : Value) (p : List Tm) (L U : List Int) (k n : Nat) (H : A1) (hl : lim ≤ H.next) (hs : SlT H s p) (hlo : SlI H lo L) (hhi : SlI H hi U)
 (hg : I1 p = true) (hk : k ≤ 4) (hn3 : n ≤ 3) (hL : L.length = n) (hU : U.length = n) :
 A5 Tryz.prog lim B15 [s, .int .i64 k, lo, hi] H fun v H' => ∃ b, C0 H' b v ((C5 ((axN p L U n).map (·.d))).map fun is => wr (Q5 (M6 n k p) (axN p L U n) is)) ∧ Ext H H' := by
 obtain ⟨gg1, gg2, gg3⟩ := A09 hg; have hbd : ∀ t ∈ p, 0 ≤ t.x ∧ t.x ≤ 4 ∧ 0 ≤ t.y ∧ t.y ≤ 4 ∧ 0 ≤ t.z ∧ t.z ≤ 4 := fun t ht => (gg1 t ht).2
 have hd := B23 hbd; have hds : ∀ m ∈ (axN p L U n).map (·.d), m ≤ 4 := by
  rw [C0h]; intro m hm; obtain ⟨j, _, rfl⟩ := List.mem_map.1 hm; exact hd j
 have hdl : ((axN p L U n).map (·.d)).length = n := by rw [List.length_map, M7]
 have hN : (C5 ((axN p L U n).map (·.d))).length ≤ 125 := by
  have h1 := R9 hds; have h2 : (5 : Nat) ^ ((axN p L U n).map (·.d)).length ≤ 5 ^ 3 := Nat.pow_le_pow_right (by decide) (by omega); omega
 refine B1o.go rfl ?_; unfold A3c; refine A0 ?_; simp only [sS]; have hll := hlo.lenV; rw [hL] at hll; refine A0 ?_; simp only [sS, hll]; refine A0 ?_; simp only [sS]; refine (C08 lim s p n H hl hs (by omega) hn3).mono ?_; rintro dv H1 ⟨c, hc1, hc2, hdv, hx1⟩; rw [D1m p L U n] at hdv; have hn1 := hx1.next; simp only [sS]; refine (C2a lim s p H1 (by omega) (hs.ext hx1) (by omega) hbd).mono ?_; rintro _ H1' ⟨rfl, hx1'⟩; have hn1' := hx1'.next; simp only [sS]; refine A0 ?_; simp only [sS]; refine (C76 lim dv _ H1' (by omega) (Vec.sl (Vec.ext hdv hx1')) hds (by omega)).mono ?_; rintro all H2 ⟨hall, hx2⟩; have hn2 := hx2.next; have hx12 := (hx1.trans hx1').trans hx2; have hdv2 : SlI H2 dv (zl ((axN p L U n).map (·.d))) := Vec.sl (Vec.ext (Vec.ext hdv hx1') hx2); have hs2 := hs.ext hx12; have hlo2 := SlI.ext hlo hx12; have hhi2 := SlI.ext hhi hx12; have hnH2 := hx12.next; have hiE : ∀ is ∈ C5 ((axN p L U n).map (·.d)), is.length = n := fun is h => by rw [P1 _ _ h, hdl]
 have hbE : ∀ is ∈ C5 ((axN p L U n).map (·.d)), ∀ u, u < n → is.getD u 0 ≤ dgI p u ∧ is.getD u 0 ≤ 4 := fun is h u hu => by
  have h1 := C0w h hds (u := u) (by omega); have h2 : ((axN p L U n).map (·.d)).getD u 0 = dgI p u := by rw [C0h]; simp [hu]
  rw [h2] at h1; omega
 have hFin : ∀ is ∈ C5 ((axN p L U n).map (·.d)), oF n k p L U is (C5 ((axN p L U n).map (·.d))) = wr (Q5 (M6 n k p) (axN p L U n) is) := fun is h => D34 hn3 (hiE is h)
 have hdg : ∀ u, u < n → ((axN p L U n).map (·.d)).getD u 0 = dgI p u := fun u hu => by rw [C0h]; simp [hu]
 generalize hDS : (axN p L U n).map (·.d) = DS at *
 generalize C5 DS = PL at *
 simp only [sS]; have hmk := A14 (H := H2) 8 PL.length PL.length [.int .i64 0] (Nat.le_refl _) (by omega) (by omega); rw [A1c] at hmk; have hal := hall.lenV; rw [List.length_map] at hal; refine A0 ?_; simp only [sS, hal, hmk]; have hv := C0.mk' H2 PL.length; have hx3 := Ext.alloc H2 (List.replicate PL.length (Value.int .i64 0)); have hbl : H2.next < (H2.alloc (List.replicate PL.length (Value.int .i64 0))).next := Nat.lt_succ_self _; generalize H2.alloc (List.replicate PL.length (Value.int .i64 0)) = H3 at hv hx3 hbl ⊢; generalize (Value.slice (some ⟨H2.next, 0, some 0⟩) PL.length PL.length) = av at hv ⊢; have e0 : List.replicate PL.length (0 : Int) = gAW n k p L U PL 0 0 := by
  unfold gAW; refine List.ext_getElem (by simp) fun x h1 h2 => ?_
  simp [aF, E8, wr]; rfl
 rw [e0] at hv; generalize hbE2 : H2.next = b at hv hbl; refine N9 (fun e' H' => ∃ (y10 y11 y12 y13 y14 y15 y16 y17 y28 y29 y30 y31 y32 y33 y34 y35 y36 y37 : Value), C0 H' b av (gAW n k p L U PL p.length 0) ∧ Ext H2 H' ∧ b < H'.next ∧ e' = [s, .int .i64 k, lo, hi, .slice none 0 0, .int .i64 n, dv, .int .i64 (E5 (-1) p), all, av, y10, y11, y12, y13, y14, y15, y16, y17, undef, undef, undef, undef, undef, undef, undef, s, .int .i64 p.length, .int .i64 p.length, y28, y29, y30, y31, y32, y33, y34, y35, y36, y37, undef, undef, undef, undef, undef, undef, undef, undef]) ?_ ?_
 ·refine A0 ?_; simp only [sS, hs2.lenV]; refine A8 ?_; refine B9 (fun j e' H' => ∃ (i : Nat) (y10 y11 y12 y13 y14 y15 y16 y17 y28 y29 y30 y31 y32 y33 y34 y35 y36 y37 : Value), i + j = p.length ∧ C0 H' b av (gAW n k p L U PL i 0) ∧ Ext H2 H' ∧ b < H'.next ∧ e' = [s, .int .i64 k, lo, hi, .slice none 0 0, .int .i64 n, dv, .int .i64 (E5 (-1) p), all, av, y10, y11, y12, y13, y14, y15, y16, y17, undef, undef, undef, undef, undef, undef, undef, s, .int .i64 p.length, .int .i64 i, y28, y29, y30, y31, y32, y33, y34, y35, y36, y37, undef, undef, undef, undef, undef, undef, undef, undef]) p.length ⟨0, _, _, _, _, _, _, _, _, _, _, _, _, _, _, _, _, _, _, by omega, hv, hx3, hbl, rfl⟩ ?_; clear hv hx3 hbl; rintro j e' H4 ⟨i, y10, y11, y12, y13, y14, y15, y16, y17, y28, y29, y30, y31, y32, y33, y34, y35, y36, y37, hij, hv, hx, hbl, rfl⟩; have hnx := hx.next; refine A9 ?_; simp only [sS]; refine C4.split (fun hlt => ?_) (fun hlt => ?_)
  ·have hip : i < p.length := by simpa using hlt
   obtain ⟨b1, o1, h1, hat⟩ := (hs2.ext hx).at hip; have hbi := hbd _ (List.getElem_mem hip); have hdi := (gg1 _ (List.getElem_mem hip)).1.2.2.2.2; refine A2 ?_; simp +decide only [sQ]; refine A8 ?_; refine A0 ?_; simp only [sS, h1, hat.all, K8 (lim := lim) (H := H4) (by omega)]; have hB := J8.mk' H4 p[i]; generalize H4.alloc (tc p[i]) = H5 at hB ⊢; generalize H4.next = q at hB hnx hbl ⊢; have hxB := hB.ext; have hnB := hxB.next; have hlB := hB.lt; have hgB := hB.ge; have hbB := hB.blk; refine A0 ?_; simp only [sS, hB.all]; refine (A0j lim _ _ (by omega)).mono ?_; rintro _ H6 ⟨rfl, hx6⟩; have hn6 := hx6.next; simp only [sS, C3a, E7 (lim := lim) (H := H6) (by omega)]; have hq : (H6.alloc [vi p[i].x, vi p[i].y, vi p[i].z]).blk H6.next = some [vi p[i].x, vi p[i].y, vi p[i].z] := A6 _ _; have hx7 := Ext.alloc H6 [vi p[i].x, vi p[i].y, vi p[i].z]; have hlt7 : H6.next < (H6.alloc [vi p[i].x, vi p[i].y, vi p[i].z]).next := Nat.lt_succ_self _; generalize H6.alloc [vi p[i].x, vi p[i].y, vi p[i].z] = H7 at hq hx7 hlt7 ⊢; generalize H6.next = r at hq hlt7 hn6 ⊢; have hxa := (hxB.trans hx6).trans hx7; have hbq7 : H7.blk q = some (tc p[i]) := by rw [(hx6.trans hx7).blk _ hlB]; exact hbB
   have hS : BnS H2 H7 b q r av (gAW n k p L U PL i 0) p[i] := ⟨hx.trans hxa, Vec.ext hv hxa, hbq7, hq, ⟨by omega, hlt7⟩, by omega, by omega⟩; clear hbq7 hq hlt7 hxa hx7 hx6 hB hxB hbB hv; refine A0 ?_; simp only [sS, hal]; refine A8 ?_; refine B9 (fun j e' H' => ∃ (x : Nat) (y12 y13 y14 y15 y16 y17 y31 y32 y33 y34 y35 y36 y37 : Value), x + j = PL.length ∧ BnS H2 H' b q r av (gAW n k p L U PL i x) p[i] ∧ e' = [s, .int .i64 k, lo, hi, .slice none 0 0, .int .i64 n, dv, .int .i64 (E5 (-1) p), all, av, .pointer (some ⟨q, 0, none⟩), .pointer (some ⟨r, 0, none⟩), y12, y13, y14, y15, y16, y17, undef, undef, undef, undef, undef, undef, undef, s, .int .i64 p.length, .int .i64 i, all, .int .i64 PL.length, .int .i64 x, y31, y32, y33, y34, y35, y36, y37, undef, undef, undef, undef, undef, undef, undef, undef]) PL.length ⟨0, _, _, _, _, _, _, _, _, _, _, _, _, _, by omega, hS, rfl⟩ ?_; clear hS; rintro j2 e' H8 ⟨x, y12, y13, y14, y15, y16, y17, y31, y32, y33, y34, y35, y36, y37, hxj, hS, rfl⟩; have hx8 := hS.ext; have hn8 := hx8.next; refine A9 ?_; simp only [sS]; refine C4.split (fun hlt2 => ?_) (fun hlt2 => ?_)
   ·have hxl : x < PL.length := by simpa using hlt2
    have hjm := List.getElem_mem hxl; have hgx : PL.getD x [] = PL[x] := by simp [hxl]
    obtain ⟨b2, o2, pw, w2, w3⟩ := hall.atx (i := x) (by rw [List.length_map]; exact hxl); simp only [List.getElem_map] at w3; have hjl := hiE _ hjm; have hjb := hbE _ hjm; obtain ⟨m, hm⟩ : ∃ m : Nat, E5 (-1) p - (p[i].x + p[i].y + p[i].z) = m := ⟨(E5 (-1) p - (p[i].x + p[i].y + p[i].z)).toNat, by omega⟩; have hm5 : m ≤ 4 := by omega
    have hkm : k * m ≤ 4 * 4 := Nat.mul_le_mul hk hm5; have f1 : IntKind.i64.wrap (E5 (-1) p - (p[i].x + p[i].y + p[i].z)) = (m : Int) := by rw [hm]; exact J0 (by omega)
    have f2 : IntKind.i64.wrap ((k : Int) * (m : Int)) = ((k * m : Nat) : Int) := J0 (n := k * m) (by omega); obtain ⟨f3, f4⟩ := D4k (k := k) (m := m) p[i].c (by omega); have hct : p[i].c * ((2 : Int) ^ k) ^ m = (tmC k (E5 (-1) p) p[i]).1 := by
     unfold tmC; rw [show (E5 (-1) p - p[i].x - p[i].y - p[i].z).toNat = m by omega]
    rw [hct] at f4; refine A2 ?_; simp +decide only [sQ]; refine A8 ?_; refine A0 ?_; simp only [sS, w2, (w3 _ hx8).1]; refine A0 ?_; simp only [sS, Nat.zero_add, B7 hS.bq, C0l hS.bq, tc]; refine (A64 _ p[i] H8 ⟨hbi.1, hbi.2.1⟩ ⟨hbi.2.2.1, hbi.2.2.2.1⟩ hbi.2.2.2.2).use ?_; rintro _ H9 ⟨rfl, hx9⟩ _; replace hS := hS.mono hx9; simp only [sS, f1, f2, f3, f4]; refine C7 (A0 ?_); simp only [sS, C6f hn3, O6]; have hx9' := hS.ext; refine A7 ?_; refine B9 (fun j e' H' => ∃ (u : Nat) (y15 y16 y17 y34 y35 y36 y37 : Value), u + j = n ∧ H' = H9 ∧ e' = [s, .int .i64 k, lo, hi, .slice none 0 0, .int .i64 n, dv, .int .i64 (E5 (-1) p), all, av, .pointer (some ⟨q, 0, none⟩), .pointer (some ⟨r, 0, none⟩), .int .i64 x, pw, .int .i64 (wr ((tmC k (E5 (-1) p) p[i]).1 * O8 ((axN p L U n).take u) (((tmC k (E5 (-1) p) p[i]).2.take n).take u) (PL[x].take u))), y15, y16, y17, undef, undef, undef, undef, undef, undef, undef, s, .int .i64 p.length, .int .i64 i, all, .int .i64 PL.length, .int .i64 x, .slice (some ⟨r, 0, some 0⟩) n 3, .int .i64 n, .int .i64 u, y34, y35, y36, y37, undef, undef, undef, undef, undef, undef, undef, undef]) n ⟨0, _, _, _, _, _, _, _, by omega, rfl, by simp only [List.take_zero, O8, Int.mul_one]; rfl⟩ ?_; rintro j3 e' H9 ⟨u, y15, y16, y17, y34, y35, y36, y37, huj, rfl, rfl⟩; refine A9 ?_; simp only [sS]; refine C4.split (fun hlt3 => ?_) (fun hlt3 => ?_)
    ·have hun : u < n := by simpa using hlt3
     obtain ⟨e, he, he4, hee⟩ := D3d (k := k) (deg := E5 (-1) p) hbi hun hn3; have hcell := C63 hS.br (show u < 3 by omega); rw [he] at hcell; obtain ⟨b3, o3, u1, u2⟩ := C52 ((w3 _ hx9').2) (i := u) (by omega); have hj4 := (hjb u hun).2; have hax : u < (axN p L U n).length := by rw [M7]; exact hun
     have hstep := B7t (axN p L U n) ((tmC k (E5 (-1) p) p[i]).2.take n) PL[x] u hax (by rw [M7]; exact C9y hn3) (by rw [M7]; exact hjl); rw [C6h hax, hee] at hstep; have hlx : (axI p L U u).lo = L.getD u 0 := rfl; have hhx : (axI p L U u).hi = U.getD u 0 := rfl; rw [hlx, hhx] at hstep; obtain ⟨b4, o4, l1, l2⟩ := X7 (SlI.ext hlo2 hx9') (i := u) (by omega); obtain ⟨b5, o5, m1, m2⟩ := X7 (SlI.ext hhi2 hx9') (i := u) (by omega); refine A2 ?_; simp +decide only [sQ]; refine A8 ?_; refine A0 ?_; simp only [sS, A92 (i := u) .i64 hun, hcell]; refine A0 ?_; simp only [sS, u1, u2]; have f5 : IntKind.i64.wrap (wr ((tmC k (E5 (-1) p) p[i]).1 * O8 ((axN p L U n).take u) (((tmC k (E5 (-1) p) p[i]).2.take n).take u) (PL[x].take u)) * (chs e (PL[x].getD u 0) : Int)) = wr (((tmC k (E5 (-1) p) p[i]).1 * O8 ((axN p L U n).take u) (((tmC k (E5 (-1) p) p[i]).2.take n).take u) (PL[x].take u)) * (chs e (PL[x].getD u 0) : Int)) := Y0 _ _; refine A0 ?_; simp only [sS]; refine (A8s lim e (PL[x].getD u 0) H9 he4 hj4).eq ?_; simp only [sS, f5]; refine C7 (A0 ?_); simp only [sS]; refine A7 ?_; refine B9 (fun j e' H'' => ∃ (q1 : Nat) (y36 y37 : Value), q1 + j = PL[x].getD u 0 ∧ H'' = H9 ∧ e' = [s, .int .i64 k, lo, hi, .slice none 0 0, .int .i64 n, dv, .int .i64 (E5 (-1) p), all, av, .pointer (some ⟨q, 0, none⟩), .pointer (some ⟨r, 0, none⟩), .int .i64 x, pw, .int .i64 (wr (((tmC k (E5 (-1) p) p[i]).1 * O8 ((axN p L U n).take u) (((tmC k (E5 (-1) p) p[i]).2.take n).take u) (PL[x].take u)) * (chs e (PL[x].getD u 0) : Int) * (U.getD u 0 - L.getD u 0) ^ q1)), .int .i64 u, .int .i64 (e : Nat), .int .i64 (PL[x].getD u 0 : Nat), undef, undef, undef, undef, undef, undef, undef, s, .int .i64 p.length, .int .i64 i, all, .int .i64 PL.length, .int .i64 x, .slice (some ⟨r, 0, some 0⟩) n 3, .int .i64 n, .int .i64 u, .int .i64 (PL[x].getD u 0 : Nat), .int .i64 (q1 : Nat), y36, y37, undef, undef, undef, undef, undef, undef, undef, undef]) (PL[x].getD u 0) ⟨0, _, _, by omega, rfl, by rw [Int.pow_zero, Int.mul_one]; rfl⟩ ?_; rintro j4 e' H9 ⟨q1, y36, y37, hqj, rfl, rfl⟩; refine A9 ?_; simp only [sS]; refine C4.split (fun hlt4 => ?_) (fun hlt4 => ?_)
     ·have hql : q1 < PL[x].getD u 0 := by have := of_decide_eq_true hlt4; omega
      have f6 : IntKind.i64.wrap (wr (((tmC k (E5 (-1) p) p[i]).1 * O8 ((axN p L U n).take u) (((tmC k (E5 (-1) p) p[i]).2.take n).take u) (PL[x].take u)) * (chs e (PL[x].getD u 0) : Int) * (U.getD u 0 - L.getD u 0) ^ q1) * IntKind.i64.wrap (U.getD u 0 - L.getD u 0)) = wr (((tmC k (E5 (-1) p) p[i]).1 * O8 ((axN p L U n).take u) (((tmC k (E5 (-1) p) p[i]).2.take n).take u) (PL[x].take u)) * (chs e (PL[x].getD u 0) : Int) * (U.getD u 0 - L.getD u 0) ^ (q1 + 1)) := by
       rw [Int.pow_succ, ← Int.mul_assoc]; exact B68 _ _
      refine A2 ?_; simp +decide only [sQ]; refine A8 ?_; refine A4 ?_; simp only [sS, l1, l2, m1, m2, f6]; simp +decide only [sQ]; refine A4 ?_; simp only [sS, D6 (i := q1) (by omega)]; simp +decide only [sQ]; exact C6.mk (j4 - 1) (by omega) ⟨q1 + 1, _, _, by omega, rfl, rfl⟩
     ·have hqe : q1 = PL[x].getD u 0 := by have := of_decide_eq_false hlt4; omega
      subst hqe; have f7 : IntKind.i64.wrap ((e : Int) - ((PL[x].getD u 0 : Nat) : Int)) = (e : Int) - ((PL[x].getD u 0 : Nat) : Int) := E3 (by omega) (by omega); refine B8 ?_; simp +decide only [sQ, reduceIte]; refine A0 ?_; simp only [sS, f7]; refine A8 ?_; refine B9 (fun j e' H'' => ∃ (q1 : Nat), q1 + j = e - PL[x].getD u 0 ∧ H'' = H9 ∧ e' = [s, .int .i64 k, lo, hi, .slice none 0 0, .int .i64 n, dv, .int .i64 (E5 (-1) p), all, av, .pointer (some ⟨q, 0, none⟩), .pointer (some ⟨r, 0, none⟩), .int .i64 x, pw, .int .i64 (wr (((tmC k (E5 (-1) p) p[i]).1 * O8 ((axN p L U n).take u) (((tmC k (E5 (-1) p) p[i]).2.take n).take u) (PL[x].take u)) * (chs e (PL[x].getD u 0) : Int) * (U.getD u 0 - L.getD u 0) ^ (PL[x].getD u 0) * L.getD u 0 ^ q1)), .int .i64 u, .int .i64 (e : Nat), .int .i64 (PL[x].getD u 0 : Nat), undef, undef, undef, undef, undef, undef, undef, s, .int .i64 p.length, .int .i64 i, all, .int .i64 PL.length, .int .i64 x, .slice (some ⟨r, 0, some 0⟩) n 3, .int .i64 n, .int .i64 u, .int .i64 (PL[x].getD u 0 : Nat), .int .i64 (PL[x].getD u 0 : Nat), .int .i64 ((e : Int) - (PL[x].getD u 0 : Nat)), .int .i64 (q1 : Nat), undef, undef, undef, undef, undef, undef, undef, undef]) (e - PL[x].getD u 0) ⟨0, by omega, rfl, by rw [Int.pow_zero, Int.mul_one]; rfl⟩ ?_; rintro j5 e' H9 ⟨q1, hqj5, rfl, rfl⟩; refine A9 ?_; simp only [sS]; refine C4.split (fun hlt5 => ?_) (fun hlt5 => ?_)
      ·have hql : q1 < e - PL[x].getD u 0 := by have := of_decide_eq_true hlt5; omega
       have f8 : IntKind.i64.wrap (wr (((tmC k (E5 (-1) p) p[i]).1 * O8 ((axN p L U n).take u) (((tmC k (E5 (-1) p) p[i]).2.take n).take u) (PL[x].take u)) * (chs e (PL[x].getD u 0) : Int) * (U.getD u 0 - L.getD u 0) ^ (PL[x].getD u 0) * L.getD u 0 ^ q1) * L.getD u 0) = wr (((tmC k (E5 (-1) p) p[i]).1 * O8 ((axN p L U n).take u) (((tmC k (E5 (-1) p) p[i]).2.take n).take u) (PL[x].take u)) * (chs e (PL[x].getD u 0) : Int) * (U.getD u 0 - L.getD u 0) ^ (PL[x].getD u 0) * L.getD u 0 ^ (q1 + 1)) := by
        rw [Int.pow_succ, ← Int.mul_assoc]; exact Y0 _ _
       refine A2 ?_; simp +decide only [sQ]; refine A8 ?_; refine A4 ?_; simp only [sS, l1, l2, f8]; simp +decide only [sQ]; refine A4 ?_; simp only [sS, D6 (i := q1) (by omega)]; simp +decide only [sQ]; exact C6.mk (j5 - 1) (by omega) ⟨q1 + 1, by omega, rfl, rfl⟩
      ·have hqe5 : q1 = e - PL[x].getD u 0 := by have := of_decide_eq_false hlt5; omega
       subst hqe5; have f9 : ((tmC k (E5 (-1) p) p[i]).1 * O8 ((axN p L U n).take u) (((tmC k (E5 (-1) p) p[i]).2.take n).take u) (PL[x].take u)) * (chs e (PL[x].getD u 0) : Int) * (U.getD u 0 - L.getD u 0) ^ (PL[x].getD u 0) * L.getD u 0 ^ (e - PL[x].getD u 0) = ((tmC k (E5 (-1) p) p[i]).1 * O8 ((axN p L U n).take (u + 1)) (((tmC k (E5 (-1) p) p[i]).2.take n).take (u + 1)) (PL[x].take (u + 1))) := by
        rw [hstep]; unfold prt; simp only [Int.mul_assoc, Int.mul_comm, Int.mul_left_comm]
       rw [f9]; refine B8 ?_; simp +decide only [sQ, reduceIte]; refine A4 ?_; simp only [sS, D6 (i := u) (by omega)]; simp +decide only [sQ]; exact C6.mk (j3 - 1) (by omega) ⟨u + 1, _, _, _, _, _, _, _, by omega, rfl, rfl⟩
    ·have hun : u = n := by simp at hlt3; omega
     subst hun; refine B8 ?_; simp +decide only [sQ, reduceIte]; have t1 : (axN p L U u).take u = axN p L U u := List.take_of_length_le (by rw [M7]; exact Nat.le_refl _); have t2 : ((tmC k (E5 (-1) p) p[i]).2.take u).take u = (tmC k (E5 (-1) p) p[i]).2.take u := List.take_of_length_le (by rw [C9y hn3]; exact Nat.le_refl _); have t3 : PL[x].take u = PL[x] := List.take_of_length_le (by rw [hjl]; exact Nat.le_refl _); rw [t1, t2, t3]; obtain ⟨w4, w5⟩ := C0.at hS.vec (i := x) (by rw [B3h]; exact hxl); rw [D4f hxl, hgx] at w5; have f10 := (D2a (n := u) (k := k) (L := L) (U := U) hip PL[x]).symm; obtain ⟨cs, hst, hS'⟩ := hS.put (lim := lim) (by omega) (by omega) (i := x) (by rw [B3h]; exact hxl) (aF u k p L U (i + 1) PL[x]); rw [← hgx, D2s hxl] at hS'; simp only [wr] at f10; refine A4 ?_; simp only [sS, w4, w5, f10, hst]; simp +decide only [sQ]; refine A4 ?_; simp only [sS, D6 (i := x) (by omega)]; simp +decide only [sQ]; exact C6.mk (j2 - 1) (by omega) ⟨x + 1, _, _, _, _, _, _, _, _, _, _, _, _, _, by omega, hS', rfl⟩
   ·have hxl : x = PL.length := by simp at hlt2; omega
    subst hxl; have hvv := hS.vec; rw [D1y] at hvv; have hltt := hS.lt; refine B8 ?_; simp +decide only [sQ, reduceIte]; refine A4 ?_; simp only [sS, D6 (i := i) (by omega)]; simp +decide only [sQ]; refine C6.mk (j - 1) (by omega) ⟨i + 1, _, _, _, _, _, _, _, _, _, _, _, _, _, _, _, _, _, _, by omega, hvv, hS.ext, by omega, rfl⟩
  ·have hip : i = p.length := by simp at hlt; omega
   subst hip; refine B8 ?_; simp +decide only [sQ, reduceIte]; exact ⟨_, _, _, _, _, _, _, _, _, _, _, _, _, _, _, _, _, _, hv, hx, hbl, rfl⟩
 ·rintro e' H4 ⟨y10, y11, y12, y13, y14, y15, y16, y17, y28, y29, y30, y31, y32, y33, y34, y35, y36, y37, hv4, hx4, hbl4, rfl⟩; have hn4 := hx4.next; have hmk4 := A14 (H := H4) 8 PL.length PL.length [.int .i64 0] (Nat.le_refl _) (by omega) (by omega); rw [A1c] at hmk4; refine A0 ?_; simp only [sS, hal, hmk4]; have ho := C0.mk' H4 PL.length; rw [D03 n k p L U PL] at ho; have hx5 := Ext.alloc H4 (List.replicate PL.length (Value.int .i64 0)); generalize H4.alloc (List.replicate PL.length (Value.int .i64 0)) = H5 at ho hx5 ⊢; generalize (Value.slice (some ⟨H4.next, 0, some 0⟩) PL.length PL.length) = ov at ho ⊢; generalize hb2 : H4.next = b2 at ho; refine C7 (A0 ?_); simp only [sS, hal]; refine A7 ?_; refine B9 (fun j e' H' => ∃ (x : Nat) (y19 y20 y21 y22 y23 y24 y41 y42 y43 y44 y45 : Value), x + j = PL.length ∧ C0 H' b2 ov (oG n k p L U PL x 0) ∧ Ext H4 H' ∧ e' = [s, .int .i64 k, lo, hi, .slice none 0 0, .int .i64 n, dv, .int .i64 (E5 (-1) p), all, av, y10, y11, y12, y13, y14, y15, y16, y17, ov, y19, y20, y21, y22, y23, y24, s, .int .i64 p.length, .int .i64 p.length, y28, y29, y30, y31, y32, y33, y34, y35, y36, y37, all, .int .i64 PL.length, .int .i64 x, y41, y42, y43, y44, y45]) PL.length ⟨0, _, _, _, _, _, _, _, _, _, _, _, by omega, ho, hx5, rfl⟩ ?_; clear ho hx5; rintro j e' H6 ⟨x, y19, y20, y21, y22, y23, y24, y41, y42, y43, y44, y45, hxj, ho, hx6, rfl⟩; refine A9 ?_; simp only [sS]; refine C4.split (fun hlt => ?_) (fun hlt => ?_)
  ·have hxl : x < PL.length := by simpa using hlt
   have hjm := List.getElem_mem hxl; have hgx : PL.getD x [] = PL[x] := by simp [hxl]
   obtain ⟨b3, o3, pi, w2, w3⟩ := hall.atx (i := x) (by rw [List.length_map]; exact hxl); simp only [List.getElem_map] at w3; have hil := hiE _ hjm; have hib := hbE _ hjm; refine A2 ?_; simp +decide only [sQ]; refine A8 ?_; refine A0 ?_; simp only [sS, w2, (w3 _ (hx4.trans hx6)).1]; refine A0 ?_; simp only [sS, hal]; refine A8 ?_; refine B9 (fun j e' H' => ∃ (y : Nat) (y21 y22 y23 y24 y44 y45 : Value), y + j = PL.length ∧ C0 H' b2 ov (oG n k p L U PL x y) ∧ Ext H4 H' ∧ e' = [s, .int .i64 k, lo, hi, .slice none 0 0, .int .i64 n, dv, .int .i64 (E5 (-1) p), all, av, y10, y11, y12, y13, y14, y15, y16, y17, ov, .int .i64 x, pi, y21, y22, y23, y24, s, .int .i64 p.length, .int .i64 p.length, y28, y29, y30, y31, y32, y33, y34, y35, y36, y37, all, .int .i64 PL.length, .int .i64 x, all, .int .i64 PL.length, .int .i64 y, y44, y45]) PL.length ⟨0, _, _, _, _, _, _, by omega, ho, hx6, rfl⟩ ?_; clear ho hx6; rintro j2 e' H7 ⟨y, y21, y22, y23, y24, y44, y45, hyj, ho, hx7, rfl⟩; refine A9 ?_; simp only [sS]; refine C4.split (fun hlt2 => ?_) (fun hlt2 => ?_)
   ·have hyl : y < PL.length := by simpa using hlt2
    have hym := List.getElem_mem hyl; have hgy : PL.getD y [] = PL[y] := by simp [hyl]
    obtain ⟨b4, o4, pj, v2, v3⟩ := hall.atx (i := y) (by rw [List.length_map]; exact hyl); simp only [List.getElem_map] at v3; have hjl := hiE _ hym; have hjb := hbE _ hym; have hav := Vec.ext hv4 hx7; obtain ⟨a1, a2⟩ := C0.at hav (i := y) (by rw [B3h]; exact hyl); rw [D01 hyl, hgy] at a2; refine A2 ?_; simp +decide only [sQ]; refine A8 ?_; refine A0 ?_; simp only [sS, v2, (v3 _ (hx4.trans hx7)).1]; refine A0 ?_; simp only [sS, a1, a2]; refine C7 (A0 ?_); simp only [sS]; refine A7 ?_; have ha0 : aF n k p L U p.length PL[y] = wr (aF n k p L U p.length PL[y]) := (D49 _).symm; refine B9 (fun j e' H' => ∃ (u : Nat) (y24 : Value), u + j = n ∧ H' = H7 ∧ e' = [s, .int .i64 k, lo, hi, .slice none 0 0, .int .i64 n, dv, .int .i64 (E5 (-1) p), all, av, y10, y11, y12, y13, y14, y15, y16, y17, ov, .int .i64 x, pi, .int .i64 y, pj, .int .i64 (wr (aF n k p L U p.length PL[y] * X0 ((axN p L U n).take u) (PL[x].take u) (PL[y].take u))), y24, s, .int .i64 p.length, .int .i64 p.length, y28, y29, y30, y31, y32, y33, y34, y35, y36, y37, all, .int .i64 PL.length, .int .i64 x, all, .int .i64 PL.length, .int .i64 y, .int .i64 n, .int .i64 u]) n ⟨0, y24, by omega, rfl, by simp only [List.take_zero, X0, Int.mul_one, ← ha0]; rfl⟩ ?_; rintro j3 e' H7 ⟨u, y24, huj, rfl, rfl⟩; refine A9 ?_; simp only [sS]; refine C4.split (fun hlt3 => ?_) (fun hlt3 => ?_)
    ·have hun : u < n := by have := of_decide_eq_true hlt3; omega
     have hax : u < (axN p L U n).length := by rw [M7]; exact hun
     have hstep := B5s (axN p L U n) PL[x] PL[y] u hax (by rw [M7]; exact hil) (by rw [M7]; exact hjl); rw [C6h hax] at hstep; have hdx : (axI p L U u).d = dgI p u := rfl; rw [hdx] at hstep; have hx24 := hx4.trans hx7; obtain ⟨c1, d1, k1, k2⟩ := C52 (SlI.ext hdv2 hx24) (i := u) (by omega); rw [hdg u hun] at k2; obtain ⟨c2, d2, k3, k4⟩ := C52 ((w3 _ hx24).2) (i := u) (by omega); obtain ⟨c3, d3, k5, k6⟩ := C52 ((v3 _ hx24).2) (i := u) (by omega); have hd4 := hd u; have hi2 := hib u hun; have hj2 := hjb u hun; obtain ⟨q1, q2⟩ := C8m ⟨dgI p u, by omega⟩ ⟨PL[x].getD u 0, by omega⟩ ⟨PL[y].getD u 0, by omega⟩ hi2.1 hj2.1; simp only [wr] at q1 q2; have q1' : ¬ ((chs (dgI p u) (PL[y].getD u 0) : Int) = 0) := by omega
     have f1 : IntKind.i64.wrap (wr (aF n k p L U p.length PL[y] * X0 ((axN p L U n).take u) (PL[x].take u) (PL[y].take u)) * wgt (dgI p u) (PL[x].getD u 0) (PL[y].getD u 0)) = wr (aF n k p L U p.length PL[y] * X0 ((axN p L U n).take (u + 1)) (PL[x].take (u + 1)) (PL[y].take (u + 1))) := by
      rw [hstep, ← Int.mul_assoc]; exact Y0 _ _
     refine A2 ?_; simp +decide only [sQ]; refine A8 ?_; refine A0 ?_; simp only [sS]; refine A4 ?_; simp only [sS, k1, k2, k3, k4, k5, k6]; refine (C3l _ (dgI p u) H7 hd4).use ?_; rintro _ HH ⟨rfl, hh⟩ _; subst HH; simp only [sS]; refine (A8s _ (dgI p u) (PL[y].getD u 0) H7 hd4 (by omega)).use ?_; rintro _ HH ⟨rfl, hh⟩ _; subst HH; simp only [sS, q1']; refine (A8s _ (PL[x].getD u 0) (PL[y].getD u 0) H7 (by omega) (by omega)).eq ?_; simp only [sS, q2, f1]; simp +decide only [sQ]; refine A4 ?_; simp only [sS, D6 (i := u) (by omega)]; simp +decide only [sQ]; exact C6.mk (j3 - 1) (by omega) ⟨u + 1, _, by omega, rfl, rfl⟩
    ·have hun : u = n := by have := of_decide_eq_false hlt3; omega
     subst hun; refine B8 ?_; simp +decide only [sQ, reduceIte]; have t1 : (axN p L U u).take u = axN p L U u := List.take_of_length_le (by rw [M7]; exact Nat.le_refl _); have t2 : PL[x].take u = PL[x] := List.take_of_length_le (by rw [hil]; exact Nat.le_refl _); have t3 : PL[y].take u = PL[y] := List.take_of_length_le (by rw [hjl]; exact Nat.le_refl _); rw [t1, t2, t3]; obtain ⟨w4, w5⟩ := C0.at ho (i := x) (by rw [B9x]; exact hxl); rw [D47 hxl, hgx] at w5; have f10 := (D07 (n := u) (k := k) (p := p) (L := L) (U := U) PL[x] PL[y] (PL.take y)).symm; rw [← List.take_succ_eq_append_getElem hyl] at f10; obtain ⟨cs, hst, ho'⟩ := C0.put (lim := lim) ho (by omega) (i := x) (by rw [B9x]; exact hxl) (oF u k p L U PL[x] (PL.take (y + 1))); rw [← hgx, D3w hxl] at ho'; simp only [wr] at f10; refine A4 ?_; simp only [sS, w4, w5, f10, hst]; simp +decide only [sQ]; refine A4 ?_; simp only [sS, D6 (i := y) (by omega)]; simp +decide only [sQ]; exact C6.mk (j2 - 1) (by omega) ⟨y + 1, _, _, _, _, _, _, by omega, ho', Chg.ext hx7 (Chg.put _ _ _) (by omega), rfl⟩
   ·have hyl : y = PL.length := by simp at hlt2; omega
    subst hyl; rw [D18] at ho; refine B8 ?_; simp +decide only [sQ, reduceIte]; refine A4 ?_; simp only [sS, D6 (i := x) (by omega)]; simp +decide only [sQ]; exact C6.mk (j - 1) (by omega) ⟨x + 1, _, _, _, _, _, _, _, _, _, _, _, by omega, ho, hx7, rfl⟩
  ·have hxl : x = PL.length := by simp at hlt; omega
   subst hxl; rw [D3p _ hFin] at ho; refine B8 ?_; simp +decide only [sQ, reduceIte]; refine A0 ?_; simp only [sS]; refine A3 ?_; simp +decide only [sQ]; exact ⟨b2, ho, hx12.trans (hx4.trans hx6)⟩
end Go.Proofs.YtmdeppkfboaepaaGreat
namespace Go.Proofs.YtmdeppkfboaepaaGreat
open Go.Ab Ints
theorem A8i {k n : Nat} {p : List Tm} {L U : List Int} (hc : Crs k n L U) (hg : I1 p = true) (hf : I9 n p = true) :
 sg ((C5 ((axN p L U n).map (·.d))).map fun is => wr (Q5 (M6 n k p) (axN p L U n) is)) = A96 k p L U := by
 obtain ⟨g1, g2, g3⟩ := A09 hg; have hb : ∀ t ∈ p, 0 ≤ t.x ∧ t.x ≤ 4 ∧ 0 ≤ t.y ∧ t.y ≤ 4 ∧ 0 ≤ t.z ∧ t.z ≤ 4 := fun t ht => (g1 t ht).2
 have hd := B23 hb; have hPN := C9l (k := k) hc.n1 hc.n3 hc.hL hc.hU hf hb; unfold A96; rw [hPN]
 congr 1
 refine List.map_congr_left fun is his => ?_
 have hm : Q5 (M6 n k p) (axN p L U n) is ∈ (C5 ([axI p L U 0, axI p L U 1, axI p L U 2].map (·.d))).map (Q5 (u6 k p) [axI p L U 0, axI p L U 1, axI p L U 2]) := by
  rw [hPN]; exact List.mem_map.2 ⟨is, his, rfl⟩
 obtain ⟨js, hjs, he⟩ := List.mem_map.1 hm; obtain ⟨j1, j2⟩ := S1.1 hjs
 match js, j1 with
 | [x, y, z], _ =>
   have a1 := j2 0 x (axI p L U 0).d rfl rfl; have a2 := j2 1 y (axI p L U 1).d rfl rfl; have a3 := j2 2 z (axI p L U 2).d rfl rfl; rw [← he]; exact C6d hc.hk g2 (fun t ht => (g1 t ht).1) g3 (hc.ax 0 _ (hd 0)) (hc.ax 1 _ (hd 1)) (hc.ax 2 _ (hd 2)) a1 a2 a3
theorem B7m (ms : List Nat) : C5 ms ≠ [] := by
 induction ms with
 | nil => simp [C5]
 | cons m ms ih =>
   intro h; obtain ⟨l, hl⟩ := List.exists_mem_of_ne_nil _ ih; have : (0 :: l) ∈ C5 (m :: ms) := by
    simp only [C5, List.mem_flatMap, List.mem_map, List.mem_range]; exact ⟨0, by omega, l, hl, rfl⟩
   rw [h] at this; simp at this
theorem D2y (lim : Nat) (s : Value) (A : List Int) (H : A1) (hs : SlI H s A) (hne : A ≠ []) (hn : A.length ≤ 1000000) :
 A5 Tryz.prog lim A33 [s] H fun v H' => (∃ m, v = .int .i64 m ∧ m ∈ A ∧ ∀ x ∈ A, m ≤ x) ∧ H' = H := by
 refine A2y.go rfl ?_; unfold Y1; have hpos : 0 < A.length := List.length_pos_iff.2 hne; obtain ⟨b0, o0, u0, _, u0c⟩ := hs.get hpos; have u0' : F1 1 s (.int .i64 0) = some (.pointer (some ⟨b0, o0, none⟩)) := u0; have d1 : decide ((A.length : Int) < 1) = false := by simp; omega
 refine A0 ?_; simp only [sS]; refine A9 ?_; simp only [sS, hs.lenV, d1]; refine C4.false_ (A2 ?_); simp +decide only [sQ]; refine A0 ?_; simp only [sS, u0', u0c]; refine C7 (A0 ?_); simp only [sS]; refine A7 ?_; refine B9 (fun j e' H' => ∃ (i : Nat) (m : Int), i + j = A.length ∧ m ∈ A ∧ (∀ x ∈ A.take i, m ≤ x) ∧ H' = H ∧ e' = [s, .int .i64 0, .int .i64 m, .int .i64 i]) (A.length - 1) ⟨1, A[0], by omega, List.getElem_mem hpos, ?_, rfl, rfl⟩ ?_
 ·intro x hx; rw [show (1 : Nat) = 0 + 1 from rfl, List.take_succ_eq_append_getElem hpos] at hx; simp at hx; omega
 rintro j e' H ⟨i, m, hij, hm, hall, rfl, rfl⟩; refine A9 ?_; simp only [sS, hs.lenV]; refine C4.split (fun hlt => ?_) (fun hlt => ?_)
 ·have hlt' : i < A.length := by simpa using hlt
  obtain ⟨b1, o1, w, _, wc⟩ := hs.get hlt'; refine A2 ?_; simp +decide only [sQ]; refine A8 ?_; refine A4 ?_; simp only [sS, w, wc]; simp +decide only [sQ]; refine A4 ?_; simp only [sS, D6 (i := i) (by omega)]; simp +decide only [sQ]; refine C6.mk (j - 1) (by omega) ⟨i + 1, _, by omega, ?_, ?_, rfl, rfl⟩
  ·split
   ·exact List.getElem_mem hlt'
   ·exact hm
  ·intro x hx; rw [List.take_succ_eq_append_getElem hlt'] at hx; rcases List.mem_append.1 hx with h | h
   ·have := hall x h; split <;> omega
   ·rw [List.mem_singleton.1 h]; split <;> omega
 ·have hge : A.length ≤ i := by simp at hlt; omega
  rw [List.take_of_length_le hge] at hall; refine B8 ?_; simp +decide only [sQ, reduceIte]; refine A0 ?_; simp only [sS]; refine A3 ?_; simp +decide only [sQ]; exact ⟨⟨m, rfl, hm, hall⟩, trivial⟩
theorem D3e (lim : Nat) (s : Value) (A : List Int) (H : A1) (hs : SlI H s A) (hne : A ≠ []) (hn : A.length ≤ 1000000) :
 A5 Tryz.prog lim A37 [s] H fun v H' => (∃ m, v = .int .i64 m ∧ m ∈ A ∧ ∀ x ∈ A, x ≤ m) ∧ H' = H := by
 refine A3f.go rfl ?_; unfold Y4; have hpos : 0 < A.length := List.length_pos_iff.2 hne; obtain ⟨b0, o0, u0, _, u0c⟩ := hs.get hpos; have u0' : F1 1 s (.int .i64 0) = some (.pointer (some ⟨b0, o0, none⟩)) := u0; have d1 : decide ((A.length : Int) < 1) = false := by simp; omega
 refine A0 ?_; simp only [sS]; refine A9 ?_; simp only [sS, hs.lenV, d1]; refine C4.false_ (A2 ?_); simp +decide only [sQ]; refine A0 ?_; simp only [sS, u0', u0c]; refine C7 (A0 ?_); simp only [sS]; refine A7 ?_; refine B9 (fun j e' H' => ∃ (i : Nat) (m : Int), i + j = A.length ∧ m ∈ A ∧ (∀ x ∈ A.take i, x ≤ m) ∧ H' = H ∧ e' = [s, .int .i64 0, .int .i64 m, .int .i64 i]) (A.length - 1) ⟨1, A[0], by omega, List.getElem_mem hpos, ?_, rfl, rfl⟩ ?_
 ·intro x hx; rw [show (1 : Nat) = 0 + 1 from rfl, List.take_succ_eq_append_getElem hpos] at hx; simp at hx; omega
 rintro j e' H ⟨i, m, hij, hm, hall, rfl, rfl⟩; refine A9 ?_; simp only [sS, hs.lenV]; refine C4.split (fun hlt => ?_) (fun hlt => ?_)
 ·have hlt' : i < A.length := by simpa using hlt
  obtain ⟨b1, o1, w, _, wc⟩ := hs.get hlt'; refine A2 ?_; simp +decide only [sQ]; refine A8 ?_; refine A4 ?_; simp only [sS, w, wc]; simp +decide only [sQ]; refine A4 ?_; simp only [sS, D6 (i := i) (by omega)]; simp +decide only [sQ]; refine C6.mk (j - 1) (by omega) ⟨i + 1, _, by omega, ?_, ?_, rfl, rfl⟩
  ·split
   ·exact List.getElem_mem hlt'
   ·exact hm
  ·intro x hx; rw [List.take_succ_eq_append_getElem hlt'] at hx; rcases List.mem_append.1 hx with h | h
   ·have := hall x h; split <;> omega
   ·rw [List.mem_singleton.1 h]; split <;> omega
 ·have hge : A.length ≤ i := by simp at hlt; omega
  rw [List.take_of_length_le hge] at hall; refine B8 ?_; simp +decide only [sQ, reduceIte]; refine A0 ?_; simp only [sS]; refine A3 ?_; simp +decide only [sQ]; exact ⟨⟨m, rfl, hm, hall⟩, trivial⟩
theorem A7y (lim : Nat) (s : Value) (A : List Int) (H : A1) (hs : SlI H s A) (hne : A ≠ []) (hn : A.length ≤ 1000000) :
 A5 Tryz.prog lim B1d [s] H fun v H' => v = .int .i64 (sg A) ∧ H' = H := by
 refine A8y.go rfl ?_; unfold A2h; refine A0 ?_; simp only [sS]; refine A7 ?_; refine E1 ?_; simp only [sS]; refine (D2y _ s A H hs hne hn).mono ?_; rintro _ H' ⟨⟨m, rfl, hm, hmn⟩, rfl⟩; simp only [sS]; refine C4.split (fun h => ?_) (fun h => ?_)
 ·have h' : 0 < m := by simpa using h
  refine A0 ?_; simp only [sS]; refine A3 ?_; simp +decide only [sQ]; unfold sg; rw [if_pos (fun v hv => by have := hmn v hv; omega)]; exact ⟨rfl, trivial⟩
 ·have h' : ¬ 0 < m := by simpa using h
  have c1 : ¬ ∀ v ∈ A, 0 < v := fun hh => h' (hh m hm)
  refine E1 ?_; simp only [sS]; refine (D3e _ s A H' hs hne hn).mono ?_; rintro _ H2 ⟨⟨M, rfl, hM, hmx⟩, rfl⟩; simp only [sS]; refine C4.split (fun h2 => ?_) (fun h2 => ?_)
  ·have h2' : M < 0 := by simpa using h2
   refine A0 ?_; simp only [sS]; refine A3 ?_; simp +decide only [sQ]; unfold sg; rw [if_neg c1, if_pos (fun v hv => by have := hmx v hv; omega)]; exact ⟨rfl, trivial⟩
  ·have h2' : ¬ M < 0 := by simpa using h2
   refine A2 ?_; simp +decide only [sQ]; refine A0 ?_; simp only [sS]; refine A3 ?_; simp +decide only [sQ]; unfold sg; rw [if_neg c1, if_neg (fun hh => h2' (hh M hM))]; exact ⟨rfl, trivial⟩
theorem Ints.T0.ext {H H' : A1} {q : Nat} {k : Int} {s t : Value} {low high : List Int} (h : Ints.T0 H q k s t low high) (hq : q < H.next) (hx : Ext H H') : Ints.T0 H' q k s t low high :=
 ⟨by rw [hx.blk _ hq]; exact h.blk, SlI.ext h.low hx, SlI.ext h.high hx⟩
theorem A59 (lim : Nat) (s bl bu : Value) (p : List Tm) (L U : List Int) (k n side q : Nat) (up : Bool) (H : A1) (hl : lim ≤ H.next) (hs : SlT H s p) (hv : Ints.T0 H q k bl bu L U) (hq : q < H.next) (hc : Crs k n L U) (hp : I1 p = true) (hf : I9 n p = true) (hside : side < n) :
 A5 Tryz.prog lim A4v [s, .pointer (some ⟨q, 0, none⟩), .int .i64 side, .bool up] H fun v H' => v = .int .i64 (fcS k p L U side up) ∧ Ext H H' := by
 have hLn := hc.hL; have hUn := hc.hU; have hn3 := hc.n3; have hn1 := hc.n1; refine A2w.go rfl ?_; unfold s5; refine A0 ?_; simp only [sS]; refine A0 ?_; simp only [sS, Nat.zero_add, B7 hv.blk]; refine (Ints.N3 _ bl L H (Nat.le_refl _) hv.low (by omega)).use ?_; rintro lo H2 ⟨b, hb1, hb2, hlo, hx2⟩ _; simp only [sS]; refine (Ints.N3 lim bu U H2 (by have := hx2.next; omega) (SlI.ext hv.high hx2) (by omega)).mono ?_; rintro hi H3 ⟨c, hc1, hc2, hhi, hx3⟩; have hnx2 := hx2.next; have hnx3 := hx3.next; have hbl : b < H2.next := (Vec.blk hlo (by omega)).elim fun _ h => h.2
 have hcl : c < H3.next := (Vec.blk hhi (by omega)).elim fun _ h => h.2
 have hlo3 := Vec.ext hlo hx3; have hx03 := hx2.trans hx3; have hq3 := hv.ext hq hx03; simp only [sS]; refine N9 (fun e' H' => C0 H' b lo (R8 L U side up) ∧ C0 H' c hi (U4 L U side up) ∧ Ext H H' ∧ e' = [s, .pointer (some ⟨q, 0, none⟩), .int .i64 side, .bool up, .int .i64 0, lo, hi]) ?_ ?_
 ·refine E1 ?_; simp only [sS]; cases up
  ·refine C4.false_ ?_; obtain ⟨q1, q2⟩ := C0.at hlo3 (i := side) (by omega); obtain ⟨w1, _⟩ := C0.at hhi (i := side) (by omega); obtain ⟨cs, hst, hhi4⟩ := C0.put (lim := lim) hhi (by omega) (i := side) (by omega) (L.getD side 0); have hch : Chg c H3 (H3.put c cs) := Chg.put _ _ _; refine A4 ?_; simp only [sS, q1, q2, w1, hst]; simp +decide only [sQ]; exact ⟨Vec.chg hlo3 hch (by omega), hhi4, Chg.ext hx03 hch (by omega), trivial⟩
  ·refine C4.true_ ?_; obtain ⟨q1, q2⟩ := C0.at hhi (i := side) (by omega); obtain ⟨w1, _⟩ := C0.at hlo3 (i := side) (by omega); obtain ⟨cs, hst, hlo4⟩ := C0.put (lim := lim) hlo3 (by omega) (i := side) (by omega) (U.getD side 0); have hch : Chg b H3 (H3.put b cs) := Chg.put _ _ _; refine A4 ?_; simp only [sS, q1, q2, w1, hst]; simp +decide only [sQ]; exact ⟨hlo4, Vec.chg hhi hch (by omega), Chg.ext hx03 hch (by omega), trivial⟩
 ·rintro e' H4 ⟨g1, g2, g3, rfl⟩; have hfc := hc.face hside up; have hn4 := g3.next; refine A0 ?_; simp only [sS, Nat.zero_add, B7 (hv.ext hq g3).blk]; refine (B0z lim s lo hi p _ _ k n H4 (by omega) (hs.ext g3) (Vec.sl g1) (Vec.sl g2) hp hc.hk hn3 hfc.hL hfc.hU).mono ?_; rintro a H5 ⟨b5, ha, hx5⟩; have hne : ((C5 ((axN p (R8 L U side up) (U4 L U side up) n).map (·.d))).map fun is => wr (Q5 (M6 n k p) (axN p (R8 L U side up) (U4 L U side up) n) is)) ≠ [] := by
   intro h; exact B7m _ (List.map_eq_nil_iff.1 h)
  have hlen : ((C5 ((axN p (R8 L U side up) (U4 L U side up) n).map (·.d))).map fun is => wr (Q5 (M6 n k p) (axN p (R8 L U side up) (U4 L U side up) n) is)).length ≤ 1000000 := by
   obtain ⟨gg1, _, _⟩ := A09 hp; have hd := B23 (p := p) fun t ht => (gg1 t ht).2
   rw [List.length_map, C0h]; have h1 := R9 (ms := (List.range n).map (dgI p)) fun m hm => by
    obtain ⟨j, _, rfl⟩ := List.mem_map.1 hm; exact hd j
   have h2 : (5 : Nat) ^ ((List.range n).map (dgI p)).length ≤ 5 ^ 3 := Nat.pow_le_pow_right (by decide) (by simp; omega); omega
  simp only [sS]; refine (A7y lim a _ H5 (Vec.sl ha) hne hlen).eq ?_; rw [A8i hfc hp hf]; simp only [sS]; refine A3 ?_; simp +decide only [sQ]; exact ⟨rfl, g3.trans hx5⟩
theorem B8y (lim : Nat) (s bl bu : Value) (p : List Tm) (L U : List Int) (k n side q : Nat) (H : A1) (hl : lim ≤ H.next) (hs : SlT H s p) (hv : Ints.T0 H q k bl bu L U) (hq : q < H.next) (hc : Crs k n L U) (hp : I1 p = true) (hf : I9 n p = true) (hside : side < n) :
 A5 Tryz.prog lim A2e [s, .pointer (some ⟨q, 0, none⟩), .int .i64 side] H fun v H' => v = .bool (B2r k p L U side) ∧ Ext H H' := by
 refine A01.go rfl ?_; unfold X3; refine A0 ?_; simp only [sS]; refine A0 ?_; simp only [sS]; refine (A59 lim s bl bu p L U k n side q false H hl hs hv hq hc hp hf hside).mono ?_; rintro _ H2 ⟨rfl, hx2⟩; have hn2 := hx2.next; simp only [sS]; refine (A59 lim s bl bu p L U k n side q true H2 (by omega) (hs.ext hx2) (hv.ext hq hx2) (by omega) hc hp hf hside).mono ?_; rintro _ H3 ⟨rfl, hx3⟩; simp only [sS, B00]; refine A3 ?_; simp +decide only [sQ]; exact ⟨rfl, hx2.trans hx3⟩
end Go.Proofs.YtmdeppkfboaepaaGreat
namespace Go.Proofs.YtmdeppkfboaepaaGreat
open Go.Ab Ints
def B96 (ss : List (List Tm)) (k : Int) (L U : List Int) : Bool := P7 ss && G0 k L U && ((ss.length : Int) == (L.length : Int))
theorem A8h (lim : Nat) (s bl bu : Value) (ss : List (List Tm)) (k : Int) (L U : List Int) (q : Nat) (H : A1) (hl : lim ≤ H.next) (hs : l3 H s ss) (hv : Ints.T0 H q k bl bu L U) (hq : q < H.next) (hn : ss.length ≤ 1000000) (hn2 : ∀ p ∈ ss, p.length ≤ 1000000) (hL : L.length ≤ 1000000) (hU : U.length ≤ 1000000) :
 A5 Tryz.prog lim B0a [s, .pointer (some ⟨q, 0, none⟩)] H fun v H' => v = .bool (B96 ss k L U) ∧ Ext H H' := by
 refine A9f.go rfl ?_; unfold A16; refine A0 ?_; simp only [sS]; refine A0 ?_; simp only [sS]; refine (C2w lim s ss H (by omega) hs hn hn2).mono ?_; rintro _ H2 ⟨rfl, hx2⟩; have hn2' := hx2.next; unfold B96; cases h1 : P7 ss
 ·simp only [sS]; refine A3 ?_; simp +decide only [sQ]; exact ⟨by simp, hx2⟩
 simp only [sS]; have hv2 := hv.ext hq hx2; refine (B67 lim hv2 (by omega) (by omega)).eq ?_; cases h2 : G0 k L U
 ·simp only [sS]; refine A3 ?_; simp +decide only [sQ]; exact ⟨by simp, hx2⟩
 simp only [sS, Nat.zero_add, B7 hv2.blk, hs.lenV, hv.low.lenV]; refine A3 ?_; simp +decide only [sQ]; exact ⟨by simp, hx2⟩
theorem C2c (ss : List (List Tm)) (k : Int) (L U : List Int) : A48 ss k L U = (B96 ss k L U && decide (k ≤ 4)) := by
 unfold A48 B96; cases P7 ss <;> cases G0 k L U <;> cases decide (k ≤ 4) <;> simp
end Go.Proofs.YtmdeppkfboaepaaGreat
namespace Go.Proofs.YtmdeppkfboaepaaGreat
open Go.Ab Ints
def A9g (n : Nat) : Nat → List Nat → List (List Nat)
 | 0, b => [b]
 | f + 1, b => (List.range n).flatMap fun k => if k ∈ b then [] else A9g n f (b ++ [k])
def A93 (n : Nat) : Nat → List (List Nat)
 | 0 => [[]]
 | i + 1 => (A93 n i).flatMap fun l => (List.range n).flatMap fun k => if k ∈ l then [] else [l ++ [k]]
def L1 (n : Nat) : List (List Nat) := A93 n n
theorem C8o : ∀ n : Fin 4, A9g n.val n.val [] = L1 n.val := by decide
theorem C53 : ∀ n : Fin 4, ∀ o ∈ L1 n.val, o.length = n.val ∧ ∀ x ∈ o, x < n.val := by decide
theorem B73 : ∀ n : Fin 4, (L1 n.val).length ≤ 6 := by decide
theorem A83 (n : Nat) : ∀ (f : Nat) (b : List Nat), (A9g n f b).length ≤ n ^ f
 | 0, b => by simp [A9g]
 | f + 1, b => by
   rw [A9g, List.length_flatMap]; have h : ∀ l : List Nat, (l.map fun k => (if k ∈ b then [] else A9g n f (b ++ [k])).length).sum ≤ l.length * n ^ f := by
    intro l
    induction l with
    | nil => simp
    | cons k l ih =>
      rw [List.map_cons, List.sum_cons, List.length_cons, Nat.succ_mul]; have : (if k ∈ b then [] else A9g n f (b ++ [k])).length ≤ n ^ f := by
       split
       ·simp
       ·exact A83 n f _
      omega
   have := h (List.range n); rw [List.length_range] at this; rw [Nat.pow_succ, Nat.mul_comm]; exact this
theorem C9a (l : List Nat) (k : Nat) : ((zl l).any (· == (k : Int))) = decide (k ∈ l) := by
 induction l with
 | nil => simp [zl]
 | cons a l ih =>
   have e : zl (a :: l) = (a : Int) :: zl l := rfl; rw [e, List.any_cons, ih]; by_cases h : a = k
   ·subst h; simp
   ·have h1 : ((a : Int) == (k : Int)) = false := by simp; omega
    rw [h1]; simp [Ne.symm h]
theorem M3.ext {H H' : A1} {lo b : Nat} {vs : List Value} {bs : List Nat} {v : Value} {ss : List (List Int)} (h : M3 H lo b vs bs v ss) (hx : Ext H H') : M3 H' lo b vs bs v ss := by
 obtain ⟨h1, h2, h3, h4, h5, h6, h7, h8, h9⟩ := h; have := hx.next; refine ⟨Vec.ext h1 hx, h2, h3, h4, fun e => by have := h5 e; omega, h6, h7, fun c hc => by have := h8 c hc; omega, fun i p hp => ?_⟩; obtain ⟨s, c, g1, g2, g3⟩ := h9 i p hp; exact ⟨s, c, g1, g2, Vec.ext g3 hx⟩
theorem B3l {lim : Nat} {H H' : A1} {b bytes sz n : Nat} {v w : Value} {cells xs : List Value} (h : Vec H b v n sz cells) (hw : Sl H' w 0 sz xs) : E4 lim H sz bytes v w = some (v, H) := by
 obtain ⟨_, a, c, rfl, _⟩ := hw; rcases h with ⟨rfl, _⟩ | ⟨c', sp, rest, rfl, _⟩ <;> simp [E4]
theorem M3.base {H H2 : A1} {lo b : Nat} {vs : List Value} {bs : List Nat} {v : Value} {ss : List (List Int)} (h : M3 H lo b vs bs v ss) (hloH : lo ≤ H.next) (hx : Ext H H2) :
 ∃ b0, Vec H2 b0 v ss.length 1 vs ∧ lo ≤ b0 ∧ b0 ∉ bs ∧ (ss ≠ [] ∧ b0 = b ∧ b0 < H.next ∨ ss = [] ∧ H2.next < b0) := by
 obtain ⟨h1, h2, hnil, h3, h4, h5, h6, h7, h8⟩ := h; have hnx := hx.next; by_cases hs : ss = []
 ·subst hs; have hv := hnil rfl; subst hv; have hvs : vs = [] := List.length_eq_zero_iff.1 (by simpa using h1.clen); subst hvs; refine ⟨H2.next + 1, Vec.nil _ _ _, by omega, fun hm => ?_, .inr ⟨rfl, by omega⟩⟩; have := h7 _ hm; omega
 ·exact ⟨b, h1.ext hx, h3, h6, .inl ⟨hs, rfl, h4 hs⟩⟩
theorem M3.appendK {lim : Nat} {H0 H H2 : A1} {lo b : Nat} {vs : List Value} {bs : List Nat} {v w : Value} {ss ss2 : List (List Int)} (h : M3 H lo b vs bs v ss) (hlim : lim ≤ lo) (hx0 : Ext H0 H) (hlo : H0.next ≤ lo) (hloH : lo ≤ H.next) (hx : Ext H H2)
 (hw : A26 H2 H.next H2.next w ss2) (hn : ss.length + ss2.length ≤ 1000000) :
 ∃ v' H3 b' vs' bs', E4 lim H2 1 24 v w = some (v', H3) ∧ M3 H3 lo b' vs' bs' v' (ss ++ ss2) ∧ Ext H0 H3 := by
 have hnx := hx.next; by_cases hs2 : ss2 = []
 ·subst hs2; obtain ⟨ws, hsl, _⟩ := hw.slss; refine ⟨v, H2, b, vs, bs, B3l (Vec.ext h.vec hx) hsl, ?_, hx0.trans hx⟩; rw [List.append_nil]; exact h.ext hx
 rcases hw with ⟨_, e⟩ | ⟨b2, vs2, bs2, k1, k2, k3, k4, k5, k6, k7⟩
 ·exact absurd e hs2
 obtain ⟨b0, hv0, hb0, hb0n, hb0r⟩ := h.base hloH hx; obtain ⟨h1, h2, hnil, h3, h4, h5, h6, h7, h8⟩ := h; have hclen := h1.clen; obtain ⟨v', H3, b', g1, g2, g3, g4, g5⟩ := hv0.append (lim := lim) (by omega) k1.sl (by decide) (bytes := 24) (by omega); have hpos : ss2.length ≠ 0 := fun e => hs2 (List.length_eq_zero_iff.1 e)
 have hb3 : b' < H3.next := (g2.blk (by omega)).elim fun _ h => h.2
 have hgn := g4.next; refine ⟨v', H3, b', vs ++ vs2, bs ++ bs2, g1, ⟨by rw [List.length_append]; exact g2, by simp [h2, k2], fun e => absurd (List.append_eq_nil_iff.1 e).2 hs2, by omega, fun _ => hb3, ?_, ?_, ?_, ?_⟩, Chg.ext (hx0.trans hx) g4 (by omega)⟩
 ·refine List.nodup_append.2 ⟨h5, k4, ?_⟩; intro x hx' y hy; have := h7 x hx'; have := k6 y hy; omega
 ·intro hm; rcases List.mem_append.1 hm with hm | hm
  ·rcases g3 with rfl | ⟨rfl, _⟩
   ·exact hb0n hm
   ·have := h7 _ hm; omega
  ·have := k6 _ hm; rcases g3 with rfl | ⟨rfl, _⟩ <;> omega
 ·intro c' hc'; rcases List.mem_append.1 hc' with hm | hm
  ·have := h7 _ hm; omega
  ·have := k6 _ hm; omega
 ·intro j q hq; by_cases hj : j < ss.length
  ·rw [List.getElem?_append_left hj] at hq; obtain ⟨s', c', q1, q2, q3⟩ := h8 j q hq; have hm := List.mem_of_getElem? q2; refine ⟨s', c', by rw [List.getElem?_append_left (by omega)]; exact q1, by rw [List.getElem?_append_left (by omega)]; exact q2, Vec.chg (Vec.ext q3 hx) g4 (fun e => hb0n (e ▸ hm))⟩
  ·rw [List.getElem?_append_right (by omega)] at hq; obtain ⟨s', c', q1, q2, q3⟩ := k7 _ q hq; have hm := k6 _ (List.mem_of_getElem? q2); have e1 : j - vs.length = j - ss.length := by omega
   have e2 : j - bs.length = j - ss.length := by omega
   exact ⟨s', c', by rw [List.getElem?_append_right (by omega), e1]; exact q1, by rw [List.getElem?_append_right (by omega), e2]; exact q2, Vec.chg q3 g4 (by omega)⟩
theorem M3.pushOld {lim : Nat} {H0 H : A1} {lo b c : Nat} {vs : List Value} {bs : List Nat} {v s : Value} {ss : List (List Int)} {p : List Int} (h : M3 H lo b vs bs v ss) (hlim : lim ≤ lo) (hx0 : Ext H0 H) (hlo : H0.next ≤ lo) (hloH : lo ≤ H.next)
 (hc1 : lo ≤ c) (hc2 : c < H.next) (hcb : ss ≠ [] → c ≠ b) (hcn : c ∉ bs) (hp : C0 H c s p) (hn : ss.length ≤ 1000000) :
 ∃ v' H3 b', E4 lim (H.alloc [s]) 1 24 v (.slice (some ⟨H.next, 0, some 0⟩) 1 1) = some (v', H3) ∧ M3 H3 lo b' (vs ++ [s]) (bs ++ [c]) v' (ss ++ [p]) ∧ Ext H0 H3 ∧ H.next ≤ H3.next ∧ (∀ x, x < H.next → (ss ≠ [] → x ≠ b) → H3.blk x = H.blk x) ∧ (ss ≠ [] ∧ b' = b ∨ H.next < b') := by
 obtain ⟨b0, hv0, hb0, hb0n, hb0r⟩ := h.base hloH (Ext.refl H); obtain ⟨h1, h2, hnil, h3, h4, h5, h6, h7, h8⟩ := h; have hclen := h1.clen; obtain ⟨v', H3, b', g1, g2, g3, g4, g5, g6⟩ := n5 hv0 (lim := lim) s (by omega) (bytes := 24) (by omega); have hcb0 : c ≠ b0 := by
  rcases hb0r with ⟨e, rfl, _⟩ | ⟨_, e⟩
  ·exact hcb e
  ·omega
 refine ⟨v', H3, b', g1, ⟨by rw [List.length_append]; exact g2, by simp [h2], by simp, by omega, fun _ => g4, ?_, ?_, ?_, ?_⟩, Chg.ext hx0 g5 (by omega), by omega, ?_, ?_⟩
 ·refine List.nodup_append.2 ⟨h5, by simp, ?_⟩; intro x hx' y hy; simp at hy; subst hy; intro e; exact hcn (e ▸ hx')
 ·intro hm; rcases List.mem_append.1 hm with hm | hm
  ·rcases g3 with rfl | g3
   ·exact hb0n hm
   ·have := h7 _ hm; omega
  ·simp at hm; rcases g3 with rfl | g3
   ·exact hcb0 hm.symm
   ·omega
 ·intro c' hc'; rcases List.mem_append.1 hc' with hm | hm
  ·have := h7 _ hm; omega
  ·simp at hm; omega
 ·intro j q hq; by_cases hj : j < ss.length
  ·rw [List.getElem?_append_left hj] at hq; obtain ⟨s', c', q1, q2, q3⟩ := h8 j q hq; have hm := List.mem_of_getElem? q2; refine ⟨s', c', by rw [List.getElem?_append_left (by omega)]; exact q1, by rw [List.getElem?_append_left (by omega)]; exact q2, Vec.chg q3 g5 (fun e => hb0n (e ▸ hm))⟩
  ·rw [List.getElem?_append_right (by omega)] at hq; have hji : j = ss.length := by
    have := (List.getElem?_eq_some_iff.1 hq).1; simp at this; omega
   subst hji; simp at hq; subst hq; exact ⟨s, c, by rw [List.getElem?_append_right (by omega)]; simp [hclen], by rw [List.getElem?_append_right (by omega)]; simp [h2], Vec.chg hp g5 hcb0⟩
 ·intro x hx' hxb; refine g5.blk x hx' ?_; rcases hb0r with ⟨e, rfl, _⟩ | ⟨_, e⟩
  ·exact hxb e
  ·omega
 ·rcases hb0r with ⟨e, rfl, _⟩ | ⟨_, e⟩
  ·rcases g3 with g3 | g3
   ·exact .inl ⟨e, g3⟩
   ·exact .inr g3
  ·right; omega
theorem B3p (n : Nat) (hn : n ≤ 3) : ∀ (f lim : Nat) (s : Value) (b : List Nat) (H : A1), lim ≤ H.next → SlI H s (zl b) → b.length + f = n →
 A5 Tryz.prog lim B4u [s, .int .i64 n] H fun v H' => A26 H' H.next H'.next v ((A9g n f b).map zl) ∧ Ext H H'
 | 0, lim, s, b, H, hl, hs, hb => by
   refine A23.go rfl ?_; unfold s9; have hsl := hs.lenV; rw [F4] at hsl; have d1 : (((b.length : Nat) : Int) == (n : Int)) = true := by simp; omega
   refine A0 ?_; simp only [sS]; refine A9 ?_; simp only [sS, hsl, d1]; refine C4.true_ (A0 ?_); simp only [sS]; refine (Ints.U0 lim s (zl b) H hl hs (by rw [F4]; omega)).mono ?_; rintro o H1 ⟨c, hc1, hc2, ho, hx1⟩; have hn1 := hx1.next; simp only [sS, L7 _ (.slice none 0 0) (x := o) (Vec.cellsV ho)]; refine A3 ?_; simp +decide only [sQ]; have hx2 := Ext.alloc H1 [o]; refine ⟨.inr ⟨H1.next, [o], [c], Vec.lit rfl, rfl, ⟨by omega, Nat.lt_succ_self _⟩, by simp, by simp; omega, ?_, ?_⟩, hx1.trans hx2⟩
   ·intro c' hc'; simp at hc'; subst hc'; exact ⟨hc1, Nat.lt_of_lt_of_le hc2 hx2.next⟩
   ·intro i p hp
    match i, hp with
    | 0, hp =>
      simp [A9g] at hp; subst hp; exact ⟨o, c, rfl, rfl, Vec.ext ho hx2⟩
 | f + 1, lim, s, b, H, hl, hs, hb => by
   refine A23.go rfl ?_; unfold s9; have hsl := hs.lenV; rw [F4] at hsl; have d1 : (((b.length : Nat) : Int) == (n : Int)) = false := by simp; omega
   refine A0 ?_; simp only [sS]; refine A9 ?_; simp only [sS, hsl, d1]; refine C4.false_ (A2 ?_); simp +decide only [sQ]; refine A0 ?_; simp only [sS]; refine C7 (A0 ?_); simp only [sS]; refine A7 ?_; refine B9 (fun j e' H' => ∃ (k bb : Nat) (vs : List Value) (bs : List Nat) (out : Value), k + j = n ∧ M3 H' H.next bb vs bs out (((List.range k).flatMap fun k => if k ∈ b then [] else A9g n f (b ++ [k])).map zl) ∧ Ext H H' ∧ e' = [s, .int .i64 n, .slice none 0 0, out, .int .i64 k]) n ⟨0, H.next, [], [], .slice none 0 0, by omega, M3.nil' H, Ext.refl _, rfl⟩ ?_; rintro j e' H1 ⟨k, bb, vs, bs, out, hkj, hg, hx, rfl⟩; have hnx := hx.next; have hs1 := SlI.ext hs hx; refine A9 ?_; simp only [sS]; refine C4.split (fun hlt => ?_) (fun hlt => ?_)
   ·have hk : k < n := by simpa using hlt
    refine A2 ?_; simp +decide only [sQ]; refine A8 ?_; refine E1 ?_; simp only [sS]; refine (Ints.C4a _ s (zl b) k H1 hs1 (by rw [F4]; omega)).eq ?_; rw [C9a]; simp only [sS]; refine C4.split (fun hm => ?_) (fun hm => ?_)
    ·have hm' : k ∉ b := by simpa using hm
     have hgl : (((List.range k).flatMap fun k => if k ∈ b then [] else A9g n f (b ++ [k])).map zl).length + (A9g n f (b ++ [k])).length ≤ 1000 := by
      have h1 := A83 n f (b ++ [k]); have h2 : ((List.range k).flatMap fun k => if k ∈ b then [] else A9g n f (b ++ [k])).length ≤ k * n ^ f := by
       rw [List.length_flatMap]; have : ∀ l : List Nat, (l.map fun k => (if k ∈ b then [] else A9g n f (b ++ [k])).length).sum ≤ l.length * n ^ f := by
        intro l
        induction l with
        | nil => simp
        | cons a l ih =>
          rw [List.map_cons, List.sum_cons, List.length_cons, Nat.succ_mul]; have : (if a ∈ b then [] else A9g n f (b ++ [a])).length ≤ n ^ f := by
           split
           ·simp
           ·exact A83 n f _
          omega
       have := this (List.range k)
       rwa [List.length_range] at this
      have h3 : n ^ f ≤ 3 ^ 3 := Nat.le_trans (Nat.pow_le_pow_left hn f) (Nat.pow_le_pow_right (by decide) (by omega)); have h4 : k * n ^ f ≤ 3 * 27 := Nat.mul_le_mul (by omega) h3; rw [List.length_map]; omega
     refine A4 ?_; simp only [sS]; refine (Ints.U0 lim s (zl b) H1 (by omega) hs1 (by rw [F4]; omega)).mono ?_; rintro o H2 ⟨c, hc1, hc2, ho, hx2⟩; obtain ⟨v6, H3, c3, e3, hv3, hc3, hlt3, ch3, n3⟩ := n5 (lim := lim) (bytes := 8) ho (.int .i64 (k : Int)) (by omega) (by rw [F4]; omega); have hv3' : C0 H3 c3 v6 (zl (b ++ [k])) := by
      rw [B0f]; exact C0.snoc hv3
     have hx3 := Chg.ext hx2 ch3 hc1; have hn3 := hx3.next; simp only [sS, L7 _ (.int .i64 0) (x := .int .i64 (k : Int)) rfl, e3]; refine (B3p n hn f lim v6 (b ++ [k]) H3 (by omega) (Vec.sl hv3') (by simp; omega)).mono ?_; rintro w H4 ⟨hw, hx4⟩; obtain ⟨v5, H5, b5, vs5, bs5, e5, hg5, hx5⟩ := (hg.ext hx3).appendK (lim := lim) (w := w) (by omega) (hx.trans hx3) (Nat.le_refl _) (by omega) hx4 hw (by rw [List.length_map]; rw [List.length_map] at hgl; rw [List.length_map]; omega); simp only [sS, e5]; simp +decide only [sQ]; refine A4 ?_; simp only [sS, D6 (i := k) (by omega)]; simp +decide only [sQ]; refine C6.mk (j - 1) (by omega) ⟨k + 1, b5, vs5, bs5, v5, by omega, ?_, hx5, rfl⟩; rw [List.range_succ, List.flatMap_append, List.map_append]; simp only [List.flatMap_cons, List.flatMap_nil, List.append_nil, if_neg hm']; exact hg5
    ·have hm' : k ∈ b := by simpa using hm
     refine A2 ?_; simp +decide only [sQ]; refine A4 ?_; simp only [sS, D6 (i := k) (by omega)]; simp +decide only [sQ]; refine C6.mk (j - 1) (by omega) ⟨k + 1, bb, vs, bs, out, by omega, ?_, hx, rfl⟩; rw [List.range_succ, List.flatMap_append, List.map_append]; simp only [List.flatMap_cons, List.flatMap_nil, List.append_nil, if_pos hm', List.map_nil]; exact hg
   ·have hk : k = n := by simp at hlt; omega
    subst hk; refine B8 ?_; simp +decide only [sQ, reduceIte]; refine A0 ?_; simp only [sS]; refine A3 ?_; simp +decide only [sQ]; exact ⟨hg.own, hx⟩
end Go.Proofs.YtmdeppkfboaepaaGreat
namespace Go.Proofs.YtmdeppkfboaepaaGreat
open Go.Ab Ints
def A6u (k : Nat) (ss : List (List Tm)) (L U : List Int) (n : Nat) : List (List Nat) := (L1 n).filter fun o => R4 k ss L U (zl o)
theorem B3s {k : Nat} {ss : List (List Tm)} {L U : List Int} {n : Nat} (hn : n ≤ 3) : (A6u k ss L U n).length ≤ 6 :=
 Nat.le_trans (List.length_filter_le _ _) (B73 ⟨n, by omega⟩)
theorem M3.nilL (H : A1) (lo : Nat) : M3 H lo lo [] [] (.slice none 0 0) [] :=
 ⟨Vec.nil _ _ _, rfl, fun _ => rfl, Nat.le_refl _, fun h => absurd rfl h, List.nodup_nil, by simp, by simp, by intro i p h; simp at h⟩
theorem B2l.extx {H H' : A1} {lo hi b : Nat} {vs : List Value} {bs : List Nat} {v : Value} {ss : List (List Int)} (h : B2l H lo hi b vs bs v ss) (hx : Ext H H') : B2l H' lo hi b vs bs v ss := h.keep hx.next fun c hc _ _ => hx.blk c hc
theorem B2l.at {H : A1} {lo hi b : Nat} {vs : List Value} {bs : List Nat} {v : Value} {ss : List (List Int)} (h : B2l H lo hi b vs bs v ss) {i : Nat} (hi' : i < ss.length) : ∃ s c, F1 1 v (.int .i64 i) = some (.pointer (some ⟨b, i, none⟩)) ∧ H.cell b i = some s ∧ vs[i]? = some s ∧ bs[i]? = some c ∧ C0 H c s ss[i] ∧ c < H.next ∨ ss[i] = [] := by
 by_cases he : ss[i] = []
 ·exact ⟨undef, 0, .inr he⟩
 obtain ⟨s, c, g1, g2, g3⟩ := h.el i _ (List.getElem?_eq_getElem hi'); have h1 := Vec.iad h.vec .i64 hi'; rw [Nat.mul_one] at h1; have hlt : c < H.next := (Vec.blk g3 (fun e => he (List.length_eq_zero_iff.1 e))).elim fun _ h => h.2
 exact ⟨s, c, .inl ⟨h1, Vec.cell h.vec g1, g1, g2, g3, hlt⟩⟩
theorem C8y (lim : Nat) (s v : Value) (ss : List (List Tm)) (L U : List Int) (k n : Nat) (H : A1) (hl : lim ≤ H.next) (hs : l3 H s ss) (hv : V6 H v k L U) (hc : Crs k n L U) (hp : ∀ p ∈ ss, I1 p = true) (hn : ss.length = n) :
 A5 Tryz.prog lim B1r [s, v] H fun v H' => A26 H' H.next H'.next v ((A6u k ss L U n).map zl) ∧ Ext H H' := by
 obtain ⟨ls, us, rfl, hls, hus⟩ := hv; have hn3 := hc.n3; have hn1 := hc.n1; refine B9e.go rfl ?_; unfold B1l; refine A0 ?_; simp only [sS, M5, C2]; have hx : Ext H (H.alloc [.int .i64 k, ls, us]) := Ext.alloc _ _; have hls1 := SlI.ext hls hx; have hus1 := SlI.ext hus hx; have hbp : (H.alloc [.int .i64 k, ls, us]).blk H.next = some [.int .i64 k, ls, us] := A6 _ _; have hbl : H.next < (H.alloc [.int .i64 k, ls, us]).next := Nat.lt_succ_self _; generalize H.alloc [.int .i64 k, ls, us] = H1 at hx hls1 hus1 hbp hbl ⊢; have hnx1 := hx.next; refine A0 ?_; simp only [sS]; refine C7 (A0 ?_); simp only [sS, hs.lenV]; rw [hn]; refine (B3p n hn3 n lim (.slice none 0 0) [] H1 (by omega) (Sl.nil _ _) (by simp)).mono ?_; rw [C8o ⟨n, by omega⟩]; rintro pv H2 ⟨hw, hx2⟩; have hnx2 := hx2.next; have hne : L1 n ≠ [] := by
  have : ∀ m : Fin 4, L1 m.val ≠ [] := by decide
  exact this ⟨n, by omega⟩
 rcases hw with ⟨_, h0⟩ | ⟨bP, vsP, bsP, hP⟩
 ·exact absurd (List.map_eq_nil_iff.1 h0) hne
 have hol := B73 ⟨n, by omega⟩; have hoi := C53 ⟨n, by omega⟩; simp only at hol hoi; have hlv := Vec.lenV hP.vec; rw [List.length_map] at hlv; simp only [sS, hlv]; refine A7 ?_; refine B9 (fun j e' H' => ∃ (i b : Nat) (vs : List Value) (bs : List Nat) (out x5 : Value), i + j = (L1 n).length ∧ M3 H' H1.next b vs bs out ((((L1 n).take i).filter fun o => R4 k ss L U (zl o)).map zl) ∧ B2l H' H1.next H2.next bP vsP bsP pv ((L1 n).map zl) ∧ Ext H1 H' ∧ H2.next ≤ H'.next ∧ (∀ c ∈ bs, c ∈ bsP.take i) ∧ ((((L1 n).take i).filter fun o => R4 k ss L U (zl o)).map zl ≠ [] → H2.next ≤ b) ∧
  e' = [s, .agg #[.int .i64 k, ls, us], .pointer (some ⟨H.next, 0, none⟩), .slice none 0 0, out, x5, pv, .int .i64 (L1 n).length, .int .i64 i]) (L1 n).length ⟨0, H1.next, [], [], .slice none 0 0, _, by omega, M3.nilL _ _, hP, hx2, Nat.le_refl _, by simp, by simp, rfl⟩ ?_
 clear hP; rintro j e' H3 ⟨i, b, vs, bs, out, x5, hij, hg, hP, hx3, hn23, hbs, hbb, rfl⟩; have hnx3 := hx3.next; refine A9 ?_; simp only [sS]; refine C4.split (fun hlt => ?_) (fun hlt => ?_)
 ·have hlt' : i < (L1 n).length := by simpa using hlt
  have hil : i < ((L1 n).map zl).length := by rw [List.length_map]; exact hlt'
  obtain ⟨o1, o2⟩ := hoi _ (List.getElem_mem hlt'); obtain ⟨sv, c, hh⟩ := hP.at hil; have hne2 : ((L1 n).map zl)[i] ≠ [] := by
   rw [List.getElem_map]; intro e; have := congrArg List.length e; rw [F4, o1, List.length_nil] at this; omega
  obtain ⟨w1, w2, w3, w4, w5, w6⟩ := hh.resolve_right hne2; rw [List.getElem_map] at w5; have hbp3 : H3.blk H.next = some [.int .i64 k, ls, us] := by rw [hx3.blk _ hbl]; exact hbp
  have hcr := hP.rngs c (List.mem_of_getElem? w4); refine A2 ?_; simp +decide only [sQ]; refine A8 ?_; refine A0 ?_; simp only [sS, w1, w2]; refine E1 ?_; simp only [sS, E9 hbp3]; refine (C31 lim s _ sv ss L U (zl (L1 n)[i]) k n H3 (by omega) (hs.ext (hx.trans hx3)) ⟨_, _, rfl, SlI.ext hls1 hx3, SlI.ext hus1 hx3⟩ (Vec.sl w5) hc hp hn (by rw [F4]; exact o1) (by
   intro x hxm; obtain ⟨y, hy, rfl⟩ := List.mem_map.1 hxm; have := o2 y hy; omega)).mono ?_
  rintro _ H4 ⟨rfl, hx4⟩; have hnx4 := hx4.next; have htk : ((L1 n).take (i + 1)).filter (fun o => R4 k ss L U (zl o)) = ((L1 n).take i).filter (fun o => R4 k ss L U (zl o)) ++ (if R4 k ss L U (zl (L1 n)[i]) = true then [(L1 n)[i]] else []) := by
   rw [List.take_succ_eq_append_getElem hlt', List.filter_append]
   congr 1
   cases h : R4 k ss L U (zl (L1 n)[i]) <;> simp [h]
  have hfl : ((((L1 n).take i).filter fun o => R4 k ss L U (zl o)).map zl).length ≤ 6 := by
   rw [List.length_map]; have h1 := List.length_filter_le (fun o => R4 k ss L U (zl o)) ((L1 n).take i); have h2 : ((L1 n).take i).length ≤ (L1 n).length := by rw [List.length_take]; omega
   omega
  have hP4 := hP.extx hx4; have hg4 := hg.ext hx4; have hi2 : i < bsP.length := by rw [hP.len]; exact hil
  have hci : bsP[i] = c := by
   have := List.getElem?_eq_getElem hi2; rw [w4] at this; exact (Option.some.inj this).symm
  have hbt : bsP.take (i + 1) = bsP.take i ++ [c] := by rw [List.take_succ_eq_append_getElem hi2, hci]
  have hcn : c ∉ bs := by
   intro hm; have h1 := hbs c hm; obtain ⟨m, hm1, hm2⟩ := List.mem_iff_getElem.1 h1; rw [List.getElem_take] at hm2; rw [List.length_take] at hm1; have := (List.getElem_inj (i := m) (j := i) (h₀ := by omega) (h₁ := hi2) hP.nodup).1 (by rw [hm2, hci]); omega
  simp only [sS]; refine C4.split (fun hb => ?_) (fun hb => ?_)
  ·obtain ⟨v5, H5, b5, e5, hg5, hx5, hn5, hk5, hb5⟩ := hg4.pushOld (lim := lim) (by omega) (hx3.trans hx4) (Nat.le_refl _) (by omega) hcr.1 (by omega) (fun e => by have := hbb e; omega) hcn (Vec.ext w5 hx4) (by omega); refine A4 ?_; simp only [sS, L7 _ (.slice none 0 0) (x := sv) (Vec.cellsV w5), e5]; simp +decide only [sQ]; refine A4 ?_; simp only [sS, D6 (i := i) (by omega)]; simp +decide only [sQ]; refine C6.mk (j - 1) (by omega) ⟨i + 1, b5, vs ++ [sv], bs ++ [c], v5, sv, by omega, ?_, hP4.keep hn5 (fun x h1 h2 h3 => hk5 x h1 (fun e => by have := hbb e; omega)), hx5, by omega, ?_, ?_, rfl⟩
   ·rw [htk, if_pos hb, List.map_append]; exact hg5
   ·intro c' hc'; rw [hbt]; rcases List.mem_append.1 hc' with h | h
    ·exact List.mem_append.2 (.inl (hbs c' h))
    ·exact List.mem_append.2 (.inr h)
   ·intro _; rcases hb5 with ⟨h1, rfl⟩ | h1
    ·exact hbb h1
    ·omega
  ·refine A2 ?_; simp +decide only [sQ]; refine A4 ?_; simp only [sS, D6 (i := i) (by omega)]; simp +decide only [sQ]; have htk' : ((L1 n).take (i + 1)).filter (fun o => R4 k ss L U (zl o)) = ((L1 n).take i).filter (fun o => R4 k ss L U (zl o)) := by rw [htk, hb]; simp
   refine C6.mk (j - 1) (by omega) ⟨i + 1, b, vs, bs, out, sv, by omega, ?_, hP4, hx3.trans hx4, by omega, ?_, ?_, rfl⟩
   ·rw [htk']; exact hg4
   ·intro c' hc'; rw [hbt]; exact List.mem_append.2 (.inl (hbs c' hc'))
   ·rw [htk']; exact hbb
 ·have hge : i = (L1 n).length := by simp at hlt; omega
  subst hge; refine B8 ?_; simp +decide only [sQ, reduceIte]; refine A0 ?_; simp only [sS]; refine A3 ?_; simp +decide only [sQ]; rw [List.take_length] at hg; exact ⟨hg.own.wide (by omega) (Nat.le_refl _), hx.trans hx3⟩
end Go.Proofs.YtmdeppkfboaepaaGreat
