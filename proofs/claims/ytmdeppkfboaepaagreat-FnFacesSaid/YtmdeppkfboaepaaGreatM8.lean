/- Parts of the proof of a statement of this seat: contracts of functions that the law calls, or the law's own row; no condition. -/
import Derived.Test.YtmdeppkfboaepaaGreatM7
set_option maxHeartbeats 8000000
set_option linter.unusedSimpArgs false
set_option linter.unusedVariables false
namespace Go.Proofs.YtmdeppkfboaepaaGreat
open Go.Ab Ints
theorem Vec.cut1 {lim : Nat} {H : A1} {b n : Nat} {v : Value} {cells : List Value} (h : Vec H b v n 1 cells) (hl : lim ≤ b) {k : Nat} (hk : k ≤ n) (z : Value) :
 ∃ vd H' vk, O5 1 v (some (.int .i64 k)) none none = some vd ∧ A87 lim H [z] vd = some (undef, H') ∧ O5 1 v none (some (.int .i64 k)) none = some vk ∧ Vec H' b vk k 1 (cells.take k) ∧ Chg b H H' := by
 have hcl := h.clen; rw [Nat.mul_one] at hcl; have hB : ∀ (x y : Nat), x ≤ y → Q0 (.int .i64 x) y = some x := by
  intro x y hxy; simp [Q0, C5f, hxy]
 rcases h with ⟨rfl, h2, h3⟩ | ⟨c, sp, rest, rfl, hsp, hb, hblk, hcl', hc, hcr⟩
 ·have hk0 : k = 0 := by omega
  subst hk0; subst h3; exact ⟨.slice none 0 0, H, .slice none 0 0, rfl, rfl, rfl, .inl ⟨rfl, rfl, rfl⟩, Chg.refl _ _⟩
 ·have s1 : O5 1 (.slice (some ⟨b, 0, sp⟩) n c) (some (.int .i64 k)) none none = some (.slice (some ⟨b, 0 + k * 1, sp⟩) (n - k) (c - k)) := by
   simp only [O5, Y7, hB k n hk, Option.bind_some, if_pos hsp, Option.isSome_none, Bool.false_eq_true, if_false]
  have s2 : O5 1 (.slice (some ⟨b, 0, sp⟩) n c) none (some (.int .i64 k)) none = some (.slice (some ⟨b, 0, sp⟩) k c) := by
   simp only [O5, Y7, hB k c (by omega), Option.bind_some, if_pos hsp, Option.isSome_none, Bool.false_eq_true, if_false, Nat.zero_mul, Nat.add_zero, Nat.sub_zero]
  have tk : (cells.take k).length = k := by rw [List.length_take]; omega
  have vec : ∀ (H' : A1) (r : List Value), H'.next = H.next → H'.blk b = some (cells.take k ++ r) → r.length = (n - k) + rest.length → Vec H' b (.slice (some ⟨b, 0, sp⟩) k c) k 1 (cells.take k) := by
   intro H' r hn hbk hr; refine .inr ⟨c, sp, r, rfl, hsp, by omega, hbk, by rw [tk, Nat.mul_one], by omega, ?_⟩; rw [hr]; omega
  by_cases h0 : n - k = 0
  ·refine ⟨_, H, _, s1, ?_, s2, vec H rest rfl ?_ (by omega), Chg.refl _ _⟩
   ·simp [A87, h0, undef]
   ·rw [List.take_of_length_le (by omega)]; exact hblk
  ·refine ⟨_, _, _, s1, ?_, s2, vec (H.put b (F8 (cells ++ rest) (0 + k * 1) (K3 (n - k) [z]))) (K3 (n - k) [z] ++ rest) rfl ?_ ?_, Chg.put _ _ _⟩
   ·simp only [A87, if_neg h0, if_pos hl, hblk, Option.bind_some]; rw [if_pos]
    ·rfl
    ·simp; omega
   ·rw [D3]
    congr 1
    unfold F8; have zl1 : (K3 (n - k) [z]).length = n - k := by rw [i9]; simp
    rw [Nat.zero_add, Nat.mul_one, zl1, List.take_append_of_le_length (by omega), show k + (n - k) = cells.length by omega, List.drop_left, List.append_assoc]
   ·rw [List.length_append, i9]; simp
def B0c (fl : List (Value × Bool)) : List (Value × Bool) := fl.filter fun x => !x.2
theorem C3s (a b : List (Value × Bool)) : B0c (a ++ b) = B0c a ++ B0c b := List.filter_append ..
theorem C29 {fl : List (Value × Bool)} (h : ∀ x ∈ fl, x.2 = false) : B0c fl = fl := List.filter_eq_self.2 fun x hx => by rw [h x hx]; rfl
theorem A03 {fl : List (Value × Bool)} {j : Nat} (hj : j < fl.length) : B0c (fl.take (j + 1)) = B0c (fl.take j) ++ if fl[j].2 = true then [] else [fl[j]] := by
 rw [List.take_succ_eq_append_getElem hj, C3s]
 congr 1
 cases h : fl[j].2 <;> simp [B0c, h]
def D37 (fl : List (Value × Bool)) (r : Int) : Prop := (r = -1 ∧ ∀ x ∈ fl, x.2 = false) ∨ ∃ i : Nat, r = (i : Int) ∧ (∀ x ∈ fl.take i, x.2 = false) ∧ ∃ h : i < fl.length, (fl[i]'h).2 = true
def C9o (lim b : Nat) (H : A1) (fv : Value) (fl : List (Value × Bool)) : Prop := ∀ x ∈ fl, ∀ (G : A1) (R : Value → A1 → Prop), Chg b H G → (∀ G', Ext G G' → R (.bool x.2) G') → C5z Tryz.prog lim fv [x.1] G R
theorem C1c {H : A1} {b : Nat} {s : Value} {fl : List (Value × Bool)} (hs : Vec H b s fl.length 1 (fl.map (·.1))) {i : Nat} (hi : i < fl.length) : F1 1 s (.int .i64 i) = some (.pointer (some ⟨b, i, none⟩)) ∧ H.cell b i = some fl[i].1 := by
 have h1 := Vec.iad hs .i64 hi; rw [Nat.mul_one] at h1; refine ⟨h1, Vec.cell hs ?_⟩; rw [List.getElem?_map, List.getElem?_eq_getElem hi]; rfl
theorem C7c (lim b : Nat) (s fv : Value) (fl : List (Value × Bool)) (H : A1) (hs : Vec H b s fl.length 1 (fl.map (·.1))) (hf : C9o lim b H fv fl) (hn : fl.length ≤ 1000000) :
 A5 Tryz.prog lim Y8 [s, fv] H fun v H' => ∃ r, v = .int .i64 r ∧ D37 fl r ∧ Ext H H' := by
 refine W8.go rfl ?_; unfold N4; refine A0 ?_; simp only [sS]; refine C7 (A0 ?_); simp only [sS, Vec.lenV hs]; refine A7 ?_; refine B9 (fun k e' H' => ∃ (i : Nat) (x : Value), i + k = fl.length ∧ (∀ t ∈ fl.take i, t.2 = false) ∧ Ext H H' ∧ e' = [s, fv, .int .i64 0, x, .int .i64 fl.length, .int .i64 i]) fl.length ⟨0, _, by omega, by simp, Ext.refl _, rfl⟩ ?_; rintro k e' H' ⟨i, x, hik, hz, hx, rfl⟩; refine A9 ?_; simp only [sS]; refine C4.split (fun hlt => ?_) (fun hlt => ?_)
 ·have hlt' : i < fl.length := by simpa using hlt
  obtain ⟨h1, h2⟩ := C1c (Vec.ext hs hx) hlt'; refine A2 ?_; simp +decide only [sQ]; refine A7 ?_; refine A0 ?_; simp only [sS]; refine E1 ?_; simp only [sS, h1, h2]; refine hf _ (List.getElem_mem hlt') _ _ (Chg.of_ext hx) fun H2 hx2 => ?_
  simp only [sS]; refine C4.split (fun hg => ?_) (fun hg => ?_)
  ·refine A0 ?_; simp only [sS]; refine A3 ?_; simp +decide only [sQ]; exact ⟨_, rfl, .inr ⟨i, rfl, hz, hlt', hg⟩, hx.trans hx2⟩
  ·refine A2 ?_; simp +decide only [sQ]; refine A4 ?_; simp only [sS, D6 (i := i) (by omega)]; simp +decide only [sQ]; refine C6.mk (k - 1) (by omega) ⟨i + 1, _, by omega, fun t ht => ?_, hx.trans hx2, rfl⟩; rw [List.take_succ_eq_append_getElem hlt', List.mem_append] at ht; rcases ht with ht | ht
   ·exact hz t ht
   ·rw [List.mem_singleton.1 ht]; exact hg
 ·have hge : i = fl.length := by simp at hlt; omega
  subst hge; refine B8 ?_; simp +decide only [sQ, reduceIte]; refine A0 ?_; simp only [sS]; refine A3 ?_; simp +decide only [sQ]; rw [List.take_length] at hz; exact ⟨_, rfl, .inl ⟨rfl, hz⟩, hx⟩
theorem C4s (lim b : Nat) (s fv : Value) (fl : List (Value × Bool)) (H : A1) (hs : Vec H b s fl.length 1 (fl.map (·.1))) (hcv : ∀ x ∈ fl, C2 x.1 = some [x.1]) (hf : C9o lim b H fv fl) (hl : lim ≤ b) (hn : fl.length ≤ 1000000) :
 A5 Tryz.prog lim W9 [s, fv] H fun v H' => Vec H' b v (B0c fl).length 1 ((B0c fl).map (·.1)) ∧ Chg b H H' := by
 refine V5.go rfl ?_; unfold M9; refine A0 ?_; simp only [sS]; refine A0 ?_; simp only [sS]; refine (C7c lim b s fv fl H hs hf hn).mono ?_; rintro _ H2 ⟨r, rfl, hfd, hx2⟩; simp only [sS]; refine A9 ?_; rcases hfd with ⟨rfl, hz⟩ | ⟨i, rfl, hz, hi, hzi⟩
 ·have hd : ((-1 : Int) == -1) = true := by decide
  simp only [sS]; refine C4.true_ (A0 ?_); simp only [sS]; refine A3 ?_; simp +decide only [sQ]; rw [C29 hz]; exact ⟨Vec.ext hs hx2, Chg.of_ext hx2⟩
 ·have hd : ((i : Int) == -1) = false := by simp <;> omega
  simp only [sS, hd]; refine C4.false_ (A2 ?_); simp +decide only [sQ]; refine C7 (A0 ?_); simp only [sS, D6 (i := i) (by omega)]; refine A7 ?_; refine B9 (fun k e' H' => ∃ (j : Nat) (F G : List (Value × Bool)) (x5 : Value), j + k = fl.length ∧ F = B0c (fl.take j) ∧ F.length + G.length = j ∧ G ≠ [] ∧ Vec H' b s (F ++ G ++ fl.drop j).length 1 ((F ++ G ++ fl.drop j).map (·.1)) ∧ Chg b H H' ∧ e' = [s, fv, .slice none 0 0, .int .i64 F.length, .int .i64 j, x5]) (fl.length - (i + 1))
   ⟨i + 1, fl.take i, [fl[i]], _, by omega, by rw [A03 hi, if_pos hzi, List.append_nil, C29 hz], by simp; omega, by simp, ?_, Chg.of_ext hx2, by rw [List.length_take, Nat.min_eq_left (by omega)]⟩ ?_
  ·have : fl.take i ++ [fl[i]] ++ fl.drop (i + 1) = fl := by rw [List.append_assoc, List.singleton_append, List.getElem_cons_drop, List.take_append_drop]
   rw [this]; exact Vec.ext hs hx2
  rintro k e' H3 ⟨j, F, G, x5, hjk, hF, hFG, hG, hv, hc, rfl⟩; have hFj : F.length ≤ j := by omega
  have hvl : (F ++ G ++ fl.drop j).length = fl.length := by simp; omega
  refine A9 ?_; have hlv := Vec.lenV hv; rw [hvl] at hlv; simp only [sS, hlv]; refine C4.split (fun hlt => ?_) (fun hlt => ?_)
  ·have hlt' : j < fl.length := by simpa using hlt
   obtain ⟨j1, a1⟩ := C1c hv (i := j) (by omega); have g1 : (F ++ G ++ fl.drop j)[j]'(by omega) = fl[j] := by
    rw [List.getElem_append_right (by simp; omega), List.getElem_drop]
    congr 1
    simp; omega
   rw [g1] at a1; refine A2 ?_; simp +decide only [sQ]; refine A7 ?_; refine A0 ?_; simp only [sS, j1, a1]; have hdj : fl.drop j = fl[j] :: fl.drop (j + 1) := (List.getElem_cons_drop ..).symm; obtain ⟨g, G', rfl⟩ : ∃ g G', G = g :: G' := by
    cases G with
    | nil => exact absurd rfl hG
    | cons g G' => exact ⟨g, G', rfl⟩
   simp only [List.length_cons] at hFG; refine E1 ?_; simp only [sS]; refine hf _ (List.getElem_mem hlt') _ _ hc fun H5 hx5 => ?_
   replace hv := Vec.ext hv hx5; replace hc := hc.trans (Chg.of_ext hx5); simp only [sS]; have leave : ∀ (F2 G2 : List (Value × Bool)) (H6 : A1), F2 = B0c (fl.take (j + 1)) → F2.length + G2.length = j + 1 → G2 ≠ [] → Vec H6 b s (F2 ++ G2 ++ fl.drop (j + 1)).length 1 ((F2 ++ G2 ++ fl.drop (j + 1)).map (·.1)) → Chg b H H6 →
    C6 (fun k e' H' => ∃ (j : Nat) (F G : List (Value × Bool)) (x5 : Value), j + k = fl.length ∧ F = B0c (fl.take j) ∧ F.length + G.length = j ∧ G ≠ [] ∧ Vec H' b s (F ++ G ++ fl.drop j).length 1 ((F ++ G ++ fl.drop j).map (·.1)) ∧ Chg b H H' ∧ e' = [s, fv, .slice none 0 0, .int .i64 F.length, .int .i64 j, x5]) k [s, fv, .slice none 0 0, .int .i64 F2.length, .int .i64 ((j + 1 : Nat) : Int), fl[j].1] H6 := by
    intro F2 G2 H6 h1 h2 h3 h4 h5; exact C6.mk (k - 1) (by omega) ⟨j + 1, F2, G2, _, by omega, h1, h2, h3, h4, h5, rfl⟩
   refine C4.split (fun hg => ?_) (fun hg => ?_)
   ·have hg' : ¬ fl[j].2 = true := by simpa using hg
    have hsh : F ++ g :: G' ++ fl.drop j = F ++ g :: (G' ++ fl.drop j) := by simp
    rw [hsh] at hv; have hFl : F.length < (F ++ g :: (G' ++ fl.drop j)).length := by simp
    obtain ⟨j2, a2⟩ := C1c hv (i := F.length) hFl; obtain ⟨cs, t1, hv6⟩ := Vec.put1 (lim := lim) hv hl (i := F.length) (x := fl[j].1) (hcv _ (List.getElem_mem hlt')) hFl; refine A0 ?_; simp only [sS, j2, t1]; refine A4 ?_; simp only [sS, D6 (i := F.length) (by omega)]; simp +decide only [sQ]; refine A4 ?_; simp only [sS, D6 (i := j) (by omega)]; simp +decide only [sQ]; have e2 : (F ++ g :: (G' ++ fl.drop j)).set F.length fl[j] = (F ++ [fl[j]]) ++ (G' ++ [fl[j]]) ++ fl.drop (j + 1) := by
     rw [List.set_append_right _ _ (by omega), Nat.sub_self, hdj]; simp
    have e3 : (F ++ g :: (G' ++ fl.drop j)).length = ((F ++ [fl[j]]) ++ (G' ++ [fl[j]]) ++ fl.drop (j + 1)).length := by rw [← e2, List.length_set]
    rw [← List.map_set, e2, e3] at hv6; have := leave (F ++ [fl[j]]) (G' ++ [fl[j]]) _ (by rw [A03 hlt', if_neg hg', hF]) (by simp; omega) (by simp) hv6 (hc.trans (Chg.put _ _ _)); rw [List.length_append, List.length_singleton] at this; exact this
   ·have hg' : fl[j].2 = true := by simpa using hg
    refine A2 ?_; simp +decide only [sQ]; refine A4 ?_; simp only [sS, D6 (i := j) (by omega)]; simp +decide only [sQ]; refine leave F (g :: G' ++ [fl[j]]) _ (by rw [A03 hlt', if_pos hg', List.append_nil, hF]) (by simp; omega) (by simp) ?_ hc; rw [hdj] at hv; simpa using hv
  ·have hge : j = fl.length := by simp at hlt; omega
   subst hge; refine B8 ?_; simp +decide only [sQ, reduceIte]; rw [List.take_length] at hF; obtain ⟨vd, H4, vk, m1, m2, m3, m4, m5⟩ := Vec.cut1 (lim := lim) hv hl (k := F.length) (by simp <;> omega) (.slice none 0 0); refine A0 ?_; simp only [sS, m1, m2]; refine A0 ?_; simp only [sS, m3]; refine A3 ?_; simp +decide only [sQ]; rw [← List.map_take, List.append_assoc, List.take_left] at m4; rw [← hF]; exact ⟨m4, hc.trans m5⟩
theorem C32 : ∀ n : Fin 4, ∀ i : Fin 4, (A93 n.val i.val).length ≤ 27 ∧ ∀ l ∈ A93 n.val i.val, l.length = i.val := by decide
def B0y (n : Nat) (l : List Nat) : List (List Nat) := (List.range n).flatMap fun k => if k ∈ l then [] else [l ++ [k]]
theorem B6y (l : List Nat) : ∀ n : Nat, (B0y n l).length ≤ n
 | 0 => by simp [B0y]
 | n + 1 => by
   have := B6y l n; unfold B0y at this ⊢; rw [List.range_succ, List.flatMap_append, List.length_append]; have : ([n].flatMap fun k => if k ∈ l then ([] : List (List Nat)) else [l ++ [k]]).length ≤ 1 := by
    simp only [List.flatMap_cons, List.flatMap_nil, List.append_nil]; split <;> simp
   omega
theorem B2t {α β : Type} (f : α → List β) (B : Nat) (h : ∀ a, (f a).length ≤ B) : ∀ l : List α, (l.flatMap f).length ≤ l.length * B
 | [] => by simp
 | a :: l => by
   rw [List.flatMap_cons, List.length_append, List.length_cons, Nat.succ_mul]; have := h a; have := B2t f B h l; omega
theorem C33 (lim n : Nat) (H : A1) (hl : lim ≤ H.next) (hn1 : 1 ≤ n) (hn3 : n ≤ 3) :
 A5 Tryz.prog lim B4x [.int .i64 n] H fun v H' => A26 H' H.next H'.next v ((L1 n).map zl) ∧ Ext H H' := by
 refine B25.go rfl ?_; unfold A4u; refine A0 ?_; simp only [sS]; refine A0 ?_; simp only [sS, L7 H (x := .slice none 0 0) (.slice none 0 0) rfl]; have h0 := A8t.one H; have hx0 := Ext.alloc H [Value.slice none 0 0]; generalize H.alloc [Value.slice none 0 0] = H1 at h0 hx0 ⊢; generalize (Value.slice (some ⟨H.next, 0, some 0⟩) 1 1) = o1 at h0 ⊢; refine C7 (A0 ?_); simp only [sS]; refine A7 ?_; refine B9 (fun j e' H' => ∃ (i : Nat) (out x3 x4 x5 x8 x9 x10 x11 x12 : Value), i + j = n ∧ A8t H' out ((A93 n i).map zl) ∧ (0 < i → A26 H' H.next H'.next out ((A93 n i).map zl)) ∧ Ext H H' ∧ e' = [.int .i64 n, .slice none 0 0, out, x3, x4, x5, .int .i64 n, .int .i64 i, x8, x9, x10, x11, x12]) n ⟨0, o1, _, _, _, _, _, _, _, _, by omega, h0, by omega, hx0, rfl⟩ ?_; clear h0 hx0; rintro j e' H2 ⟨i, out, x3, x4, x5, x8, x9, x10, x11, x12, hij, ho, hoo, hx, rfl⟩; have hnx := hx.next; refine A9 ?_; simp only [sS]; refine C4.split (fun hlt => ?_) (fun hlt => ?_)
 ·have hlt' : i < n := by simpa using hlt
  obtain ⟨hpl, hpm⟩ := C32 ⟨n, by omega⟩ ⟨i, by omega⟩; simp only at hpl hpm; have hol := ho.lenV; rw [List.length_map] at hol; have hnext : A93 n (i + 1) = (A93 n i).flatMap (B0y n) := rfl; generalize A93 n i = PL at *
  refine A2 ?_; simp +decide only [sQ]; refine A8 ?_; refine A0 ?_; simp only [sS]; refine C7 (A0 ?_); simp only [sS, hol]; refine A7 ?_; refine B9 (fun j2 e' H' => ∃ (m b : Nat) (vs : List Value) (bs : List Nat) (nx x4 x5 x11 x12 : Value), m + j2 = PL.length ∧ M3 H' H2.next b vs bs nx (((PL.take m).flatMap (B0y n)).map zl) ∧ Ext H2 H' ∧ e' = [.int .i64 n, .slice none 0 0, out, nx, x4, x5, .int .i64 n, .int .i64 i, out, .int .i64 PL.length, .int .i64 m, x11, x12]) PL.length ⟨0, H2.next, [], [], .slice none 0 0, _, _, _, _, by omega, M3.nil' H2, Ext.refl _, rfl⟩ ?_; rintro j2 e' H3 ⟨m, b, vs, bs, nx, x4, x5, x11, x12, hmj, hg, hx3, rfl⟩; have hnx3 := hx3.next; refine A9 ?_; simp only [sS]; refine C4.split (fun hlt2 => ?_) (fun hlt2 => ?_)
  ·have hml : m < PL.length := by simpa using hlt2
   obtain ⟨b2, o2, ls, w2, w3⟩ := ho.atx (i := m) (by rw [List.length_map]; exact hml); simp only [List.getElem_map] at w3; have hmt := List.take_succ_eq_append_getElem hml; have hll := hpm _ (List.getElem_mem hml); have hfl := B2t (B0y n) n (fun l => B6y l n) (PL.take m); rw [List.length_take, Nat.min_eq_left (by omega)] at hfl; have hfl2 : m * n ≤ 27 * 3 := Nat.mul_le_mul (by omega) hn3; generalize PL[m] = l at *
   refine A2 ?_; simp +decide only [sQ]; refine A8 ?_; refine A0 ?_; simp only [sS, w2, (w3 _ hx3).1]; refine A0 ?_; simp only [sS]; refine A8 ?_; refine B9 (fun j3 e' H' => ∃ (k b : Nat) (vs : List Value) (bs : List Nat) (nx x5 : Value), k + j3 = n ∧ M3 H' H2.next b vs bs nx (((PL.take m).flatMap (B0y n) ++ B0y k l).map zl) ∧ Ext H2 H' ∧ e' = [.int .i64 n, .slice none 0 0, out, nx, ls, x5, .int .i64 n, .int .i64 i, out, .int .i64 PL.length, .int .i64 m, .int .i64 n, .int .i64 k]) n ⟨0, b, vs, bs, nx, _, by omega, by simpa [B0y] using hg, hx3, rfl⟩ ?_; clear hg; rintro j3 e' H4 ⟨k, b, vs, bs, nx, x5, hkj, hg, hx4, rfl⟩; have hn4 := hx4.next; refine A9 ?_; simp only [sS]; refine C4.split (fun hlt3 => ?_) (fun hlt3 => ?_)
   ·have hkn : k < n := by simpa using hlt3
    have hmk := B6y l k; have hlen : (((PL.take m).flatMap (B0y n) ++ B0y k l).map zl).length ≤ 1000 := by
     rw [List.length_map, List.length_append]; omega
    have hms : B0y (k + 1) l = B0y k l ++ if k ∈ l then [] else [l ++ [k]] := by
     unfold B0y; rw [List.range_succ, List.flatMap_append]; simp only [List.flatMap_cons, List.flatMap_nil, List.append_nil]
    refine A2 ?_; simp +decide only [sQ]; refine A8 ?_; refine A0 ?_; simp only [sS]; refine E1 ?_; simp only [sS]; refine (Ints.C2n _ ls (zl l) k H4 (w3 _ hx4).2 (by rw [F4]; omega)).eq ?_; rw [C9a]; simp only [sS]; refine C4.split (fun hm => ?_) (fun hm => ?_)
    ·have hm' : k ∉ l := by simpa using hm
     refine A4 ?_; simp only [sS]; refine (Ints.N3 lim ls (zl l) H4 (by omega) (w3 _ hx4).2 (by rw [F4]; omega)).mono ?_; rintro cl H5 ⟨c, hc1, hc2, hcl, hx5⟩; have hn5 := hx5.next; obtain ⟨v6, H6, c6, e6, hv6, hc6, hlt6, ch6, n6⟩ := n5 (lim := lim) (bytes := 8) hcl (.int .i64 (k : Int)) (by omega) (by rw [F4]; omega); have hx6 := Chg.ext hx5 ch6 hc1; have hn6 := hx6.next; have hv6' : C0 H6 c6 v6 (zl (l ++ [k])) := by
      rw [B0f]; exact C0.snoc hv6
     obtain ⟨v7, H7, b7, e7, hg7, hx7⟩ := M3.push (lim := lim) hg (by omega) hx4 (Nat.le_refl _) hn4 hx6 (by rcases hc6 with h | h <;> omega) (by omega) hv6' (by omega); simp only [sS, L7 _ (.int .i64 0) (x := .int .i64 (k : Int)) rfl, e6, L7 _ (.slice none 0 0) (x := v6) (Vec.cellsV hv6'), e7]; simp +decide only [sQ]; refine A4 ?_; simp only [sS, D6 (i := k) (by omega)]; simp +decide only [sQ]; refine C6.mk (j3 - 1) (by omega) ⟨k + 1, b7, vs ++ [v6], bs ++ [c6], v7, .int .i64 k, by omega, ?_, hx7, rfl⟩; rw [hms, if_neg hm', ← List.append_assoc, List.map_append]; exact hg7
    ·have hm' : k ∈ l := by simpa using hm
     refine A2 ?_; simp +decide only [sQ]; refine A4 ?_; simp only [sS, D6 (i := k) (by omega)]; simp +decide only [sQ]; refine C6.mk (j3 - 1) (by omega) ⟨k + 1, b, vs, bs, nx, .int .i64 k, by omega, ?_, hx4, rfl⟩; rw [hms, if_pos hm', List.append_nil]; exact hg
   ·have hge : k = n := by simp at hlt3; omega
    subst hge; refine B8 ?_; simp +decide only [sQ, reduceIte]; refine A4 ?_; simp only [sS, D6 (i := m) (by omega)]; simp +decide only [sQ]; refine C6.mk (j2 - 1) (by omega) ⟨m + 1, b, vs, bs, nx, _, _, _, _, by omega, ?_, hx4, rfl⟩; rw [hmt, List.flatMap_append]; simpa using hg
  ·have hge : m = PL.length := by simp at hlt2; omega
   subst hge; refine B8 ?_; simp +decide only [sQ, reduceIte]; refine A4 ?_; simp only [sS]; simp +decide only [sQ]; refine A4 ?_; simp only [sS, D6 (i := i) (by omega)]; simp +decide only [sQ]; rw [List.take_length, ← hnext] at hg; exact C6.mk (j - 1) (by omega) ⟨i + 1, nx, _, _, _, _, _, _, _, _, by omega, hg.own.slss, fun _ => hg.own.wide hnx (Nat.le_refl _), hx.trans hx3, rfl⟩
 ·have hge : i = n := by simp at hlt; omega
  subst hge; refine B8 ?_; simp +decide only [sQ, reduceIte]; refine A0 ?_; simp only [sS]; refine A3 ?_; simp +decide only [sQ]; exact ⟨hoo (by omega), hx⟩
end Go.Proofs.YtmdeppkfboaepaaGreat
namespace Go.Proofs.YtmdeppkfboaepaaGreat
open Go.Ab Ints
theorem B2l.sub {H H' : A1} {lo hi b : Nat} {vs : List Value} {bs : List Nat} {v v' : Value} {ss : List (List Int)} (h : B2l H lo hi b vs bs v ss) {idx : List Nat} (hnd : idx.Nodup) (hin : ∀ i ∈ idx, i < ss.length) (hv : Vec H' b v' idx.length 1 (idx.map fun i => vs.getD i undef)) (hc : Chg b H H') :
 B2l H' lo hi b (idx.map fun i => vs.getD i undef) (idx.map fun i => bs.getD i 0) v' (idx.map fun i => ss.getD i []) := by
 obtain ⟨h1, h2, h3, h4, h5, h6, h7⟩ := h; have hbg : ∀ i ∈ idx, ∃ hi : i < bs.length, bs.getD i 0 = bs[i] := fun i hi => by
  have := hin i hi; exact ⟨by omega, by simp [show i < bs.length by omega]⟩
 refine ⟨by rw [List.length_map]; exact hv, by simp, h3, ?_, ?_, ?_, ?_⟩
 ·unfold List.Nodup; rw [List.pairwise_map]; refine List.Pairwise.imp_of_mem ?_ hnd; intro a c ha hc2 hne e; obtain ⟨ha1, ha2⟩ := hbg a ha; obtain ⟨hc1, hc2'⟩ := hbg c hc2; rw [ha2, hc2'] at e; exact hne ((List.getElem_inj h4).1 e)
 ·intro hm; obtain ⟨i, hi1, hi2⟩ := List.mem_map.1 hm; obtain ⟨ha1, ha2⟩ := hbg i hi1; rw [ha2] at hi2; exact h5 (hi2 ▸ List.getElem_mem ha1)
 ·intro c hcm; obtain ⟨i, hi1, rfl⟩ := List.mem_map.1 hcm; obtain ⟨ha1, ha2⟩ := hbg i hi1; rw [ha2]; exact h6 _ (List.getElem_mem ha1)
 ·intro j p hp; rw [List.getElem?_map] at hp; obtain ⟨i, hi1, hi2⟩ := Option.map_eq_some_iff.1 hp; have him := List.mem_of_getElem? hi1; have hil := hin i him; obtain ⟨s, c, g1, g2, g3⟩ := h7 i _ (List.getElem?_eq_getElem hil); have hgs : ss.getD i [] = ss[i] := by simp [hil]
  rw [hgs] at hi2; subst hi2; refine ⟨s, c, ?_, ?_, Vec.chg g3 hc (fun e => h5 (e ▸ List.mem_of_getElem? g2))⟩
  ·rw [List.getElem?_map, hi1]; simp [g1]
  ·rw [List.getElem?_map, hi1]; simp [g2]
theorem B66 {α : Type} (l : List α) (d : α) : l = (List.range l.length).map fun i => l.getD i d := by
 refine List.ext_getElem (by simp) fun i h1 h2 => ?_
 simp [h1]
end Go.Proofs.YtmdeppkfboaepaaGreat
namespace Go.Proofs.YtmdeppkfboaepaaGreat
open Go.Ab Ints
def D3t (H : A1) (lo hi : Nat) (x : Value) (l : List Int) : Prop := (x = .slice none 0 0 ∧ l = []) ∨ ∃ c, lo ≤ c ∧ c < hi ∧ C0 H c x l
theorem D3t.sl {H : A1} {lo hi : Nat} {x : Value} {l : List Int} (h : D3t H lo hi x l) : SlI H x l := by
 rcases h with ⟨rfl, rfl⟩ | ⟨c, _, _, g⟩
 ·exact Sl.nil _ _
 ·exact Vec.sl g
def A4d (H : A1) (lo : Nat) (v : Value) (r : Option (List Nat)) : Prop := ∃ x, v = .tuple #[x, .bool r.isSome] ∧ D3t H lo H.next x (zl (r.getD []))
end Go.Proofs.YtmdeppkfboaepaaGreat
namespace Go.Proofs.YtmdeppkfboaepaaGreat
open Go.Ab Ints
def dbl (l : List Int) : List Int := l.map (2 * ·)
theorem E2 (l : List Int) : (dbl l).length = l.length := by simp [dbl]
theorem B76 (l m : List Int) : dbl (l ++ m) = dbl l ++ dbl m := by simp [dbl]
theorem S5 (a : Int) (l : List Int) : dbl (a :: l) = 2 * a :: dbl l := rfl
theorem D3o (x : Int) : hvq (2 * x) = x := by
 unfold hvq; exact Int.mul_tdiv_cancel_left x (by decide)
theorem C5v : ∀ l : List Int, (dbl l).map hvq = l
 | [] => rfl
 | a :: l => by rw [S5, List.map_cons, D3o, C5v l]
theorem C35 : ∀ l h : List Int, V4 (dbl l) (dbl h) = false
 | [], _ => by cases ‹List Int› <;> rfl
 | _ :: _, [] => rfl
 | a :: l, b :: h => by
   rw [S5, S5, V4, C35 l h, Int.mul_tmod_right, Int.mul_tmod_right]; rfl
theorem A6v (k : Nat) (l h : List Int) : D2 (k + 1) (dbl l) (dbl h) = D2 k l h := by
 rw [D2, if_neg (by rw [C35]; decide), C5v, C5v]
def Z5 : Nat → List Int → List Int
 | 0, l => l
 | j + 1, l => dbl (Z5 j l)
theorem A9p (k : Nat) (l h : List Int) : ∀ j : Nat, D2 (k + j) (Z5 j l) (Z5 j h) = D2 k l h
 | 0 => rfl
 | j + 1 => by rw [Z5, Z5, ← Nat.add_assoc, A6v, A9p k l h j]
theorem C6l {x : Int} (h : x.tmod 2 = 0) : 2 * hvq x = x := by
 unfold hvq; have := Int.tmod_add_mul_tdiv x 2; omega
theorem C25 : ∀ (l h : List Int), h.length = l.length → V4 l h = false → dbl (l.map hvq) = l ∧ dbl (h.map hvq) = h
 | [], h, hl, _ => by
   have : h = [] := List.length_eq_zero_iff.1 (by simpa using hl); subst this; exact ⟨rfl, rfl⟩
 | a :: l, [], hl, _ => by simp at hl
 | a :: l, b :: h, hl, ho => by
   simp only [V4, Bool.or_eq_false_iff, bne_eq_false_iff_eq] at ho; obtain ⟨e1, e2⟩ := C25 l h (by simpa using hl) ho.2; rw [List.map_cons, List.map_cons, S5, S5, e1, e2, C6l ho.1.1, C6l ho.1.2]; exact ⟨rfl, rfl⟩
theorem V0 : ∀ (k : Nat) (l h : List Int), h.length = l.length → ∃ j, k = (D2 k l h).1 + j ∧ l = Z5 j (D2 k l h).2.1 ∧ h = Z5 j (D2 k l h).2.2
 | 0, l, h, _ => ⟨0, rfl, rfl, rfl⟩
 | k + 1, l, h, hl => by
   by_cases ho : V4 l h = true
   ·rw [D2, if_pos ho]; exact ⟨0, rfl, rfl, rfl⟩
   ·rw [D2, if_neg ho]; obtain ⟨j, e1, e2, e3⟩ := V0 k (l.map hvq) (h.map hvq) (by simp [hl]); obtain ⟨d1, d2⟩ := C25 l h hl (by simpa using ho); exact ⟨j + 1, by omega, by rw [Z5, ← e2, d1], by rw [Z5, ← e3, d2]⟩
theorem A5z (l : List Int) : ∀ j, (Z5 j l).length = l.length
 | 0 => rfl
 | j + 1 => by rw [Z5, E2, A5z l j]
theorem V1 (k : Nat) (l h : List Int) (hl : h.length = l.length) : (D2 k l h).2.1.length = l.length ∧ (D2 k l h).2.2.length = l.length := by
 obtain ⟨j, _, e2, e3⟩ := V0 k l h hl; have h1 := congrArg List.length e2; have h2 := congrArg List.length e3; rw [A5z] at h1 h2; omega
theorem B9u : ∀ (k : Nat) (l h : List Int), (D2 k l h).1 ≤ k
 | 0, _, _ => Nat.le_refl _
 | k + 1, l, h => by
   rw [D2]; split
   ·exact Nat.le_refl _
   ·exact Nat.le_succ_of_le (B9u k _ _)
theorem C0a : ∀ (k : Nat) (l h : List Int), (D2 k l h).1 = 0 ∨ V4 (D2 k l h).2.1 (D2 k l h).2.2 = true
 | 0, _, _ => .inl rfl
 | k + 1, l, h => by
   rw [D2]; split
   ·rename_i ho; exact .inr ho
   ·exact C0a k _ _
theorem B6d (m : Int) : ∀ l h : List Int, L9 (2 * m) (dbl l) (dbl h) = L9 m l h
 | [], _ => by cases ‹List Int› <;> rfl
 | _ :: _, [] => rfl
 | a :: l, b :: h => by
   rw [S5, S5, L9, L9, B6d m l h]; have e : ∀ x y : Int, decide (2 * x ≤ 2 * y) = decide (x ≤ y) := fun x y => by
    by_cases h : x ≤ y
    ·rw [decide_eq_true h, decide_eq_true (by omega)]
    ·rw [decide_eq_false h, decide_eq_false (by omega)]
   have e2 : decide (2 * a < 2 * b) = decide (a < b) := by
    by_cases h : a < b
    ·rw [decide_eq_true h, decide_eq_true (by omega)]
    ·rw [decide_eq_false h, decide_eq_false (by omega)]
   rw [show -(2 * m) = 2 * -m by omega, e, e, e, e, e2]
theorem B9p (m : Int) (l h : List Int) : ∀ j : Nat, L9 (m * 2 ^ j) (Z5 j l) (Z5 j h) = L9 m l h
 | 0 => by rw [Int.pow_zero, Int.mul_one]; rfl
 | j + 1 => by rw [Z5, Z5, Int.pow_succ, ← Int.mul_assoc, Int.mul_comm _ 2, B6d, B9p m l h j]
theorem A6f (m : Int) : ∀ (l h l' h' : List Int), h.length = l.length → L9 m (l ++ l') (h ++ h') = (L9 m l h && L9 m l' h')
 | [], h, l', h', hl => by
   have : h = [] := List.length_eq_zero_iff.1 (by simpa using hl); subst this; rfl
 | a :: l, [], _, _, hl => by simp at hl
 | a :: l, b :: h, l', h', hl => by
   rw [List.cons_append, List.cons_append, L9, L9, A6f m l h l' h' (by simpa using hl)]; simp only [Bool.and_assoc]
theorem C0e {k : Nat} {l h : List Int} (hl : h.length = l.length) (h1 : 1 ≤ l.length) (h3 : l.length ≤ 3) (hk : k ≤ 8) (hr : L9 (8 * 2 ^ k) l h = true) : G0 (D2 k l h).1 (D2 k l h).2.1 (D2 k l h).2.2 = true := by
 obtain ⟨j, e1, e2, e3⟩ := V0 k l h hl; obtain ⟨n1, n2⟩ := V1 k l h hl; have hkl := B9u k l h; have ho := C0a k l h; generalize D2 k l h = r at *
 obtain ⟨k', l', h'⟩ := r; simp only at *
 subst e1 e2 e3; rw [Int.pow_add, ← Int.mul_assoc, B9p] at hr; rw [A5z] at h1 h3 n1 n2; simp only [G0, Bool.and_eq_true, decide_eq_true_eq, Bool.not_eq_true', bne_eq_false_iff_eq, Bool.or_eq_true, beq_iff_eq]; refine ⟨⟨⟨⟨⟨by omega, by omega⟩, by omega, by omega⟩, by omega⟩, by simpa using hr⟩, ?_⟩; rcases ho with ho | ho
 ·exact .inl (by omega)
 ·exact .inr ho
theorem D0p (l : List Int) (s : Nat) : (dbl l).getD s 0 = 2 * l.getD s 0 := by
 simp only [dbl, List.getD_eq_getElem?_getD, List.getElem?_map]; cases l[s]? <;> simp
theorem C0y (l : List Int) (s : Nat) (x : Int) : (dbl l).set s (2 * x) = dbl (l.set s x) := by
 simp only [dbl, List.map_set]
theorem B5v (l : List Int) : ∀ j, dbl (Z5 j l) = Z5 j (dbl l)
 | 0 => rfl
 | j + 1 => by rw [Z5, B5v l j]; rfl
theorem B7y (l h x : List Int) (s : Nat) : ∀ j, (dbl (Z5 j x)).set s ((Z5 j l).getD s 0 + (Z5 j h).getD s 0) = Z5 j ((dbl x).set s (l.getD s 0 + h.getD s 0))
 | 0 => rfl
 | j + 1 => by
   simp only [Z5, D0p]; rw [← Int.mul_add, C0y, B7y l h x s j]
theorem D4c (k : Nat) (l h : List Int) (s : Nat) (hl : h.length = l.length) :
 D2 ((D2 k l h).1 + 1) (dbl (D2 k l h).2.1) ((dbl (D2 k l h).2.2).set s ((D2 k l h).2.1.getD s 0 + (D2 k l h).2.2.getD s 0)) = D2 (k + 1) (dbl l) ((dbl h).set s (l.getD s 0 + h.getD s 0)) := by
 obtain ⟨j, e1, e2, e3⟩ := V0 k l h hl; generalize D2 k l h = r at *
 obtain ⟨k', l', h'⟩ := r; simp only at *
 subst e1 e2 e3; rw [B7y, B5v, Nat.add_right_comm, A9p]
theorem D4w (k : Nat) (l h : List Int) (s : Nat) (hl : h.length = l.length) :
 D2 ((D2 k l h).1 + 1) ((dbl (D2 k l h).2.1).set s ((D2 k l h).2.1.getD s 0 + (D2 k l h).2.2.getD s 0)) (dbl (D2 k l h).2.2) = D2 (k + 1) ((dbl l).set s (l.getD s 0 + h.getD s 0)) (dbl h) := by
 obtain ⟨j, e1, e2, e3⟩ := V0 k l h hl; generalize D2 k l h = r at *
 obtain ⟨k', l', h'⟩ := r; simp only at *
 subst e1 e2 e3; rw [B7y, B5v, Nat.add_right_comm, A9p]
def N7 (r : Nat) : List Int → List Int → List Nat → List Int
 | a :: av, h :: hs, i :: is => (2 ^ r * a + i * (h - a)) :: N7 r av hs is
 | _, _, _ => []
def K7 (r : Nat) : List Int → List Int → List Nat → List Int
 | a :: av, h :: hs, i :: is => (2 ^ r * a + (i + 1) * (h - a)) :: K7 r av hs is
 | _, _, _ => []
theorem M2 (r : Nat) : ∀ (av hs : List Int) (is : List Nat), hs.length = av.length → is.length = av.length → (N7 r av hs is).length = av.length
 | [], _, _, _, _ => rfl
 | a :: av, h :: hs, i :: is, h1, h2 => by simp [N7, M2 r av hs is (by simpa using h1) (by simpa using h2)]
 | a :: av, [], _, h1, _ => by simp at h1
 | a :: av, h :: hs, [], _, h2 => by simp at h2
theorem L0 (r : Nat) : ∀ (av hs : List Int) (is : List Nat), hs.length = av.length → is.length = av.length → (K7 r av hs is).length = av.length
 | [], _, _, _, _ => rfl
 | a :: av, h :: hs, i :: is, h1, h2 => by simp [K7, L0 r av hs is (by simpa using h1) (by simpa using h2)]
 | a :: av, [], _, h1, _ => by simp at h1
 | a :: av, h :: hs, [], _, h2 => by simp at h2
theorem C3r {m a h : Int} {r i : Nat} (h1 : -m ≤ a) (h2 : h ≤ m) (h3 : a < h) (hi : i + 1 ≤ 2 ^ r) :
 -(m * 2 ^ r) ≤ 2 ^ r * a + i * (h - a) ∧ 2 ^ r * a + i * (h - a) ≤ m * 2 ^ r ∧ -(m * 2 ^ r) ≤ 2 ^ r * a + (i + 1) * (h - a) ∧ 2 ^ r * a + (i + 1) * (h - a) ≤ m * 2 ^ r ∧ 2 ^ r * a + i * (h - a) < 2 ^ r * a + (i + 1) * (h - a) := by
 have e : ((2 ^ r : Nat) : Int) = (2 : Int) ^ r := by push_cast; rfl
 have hp : (1 : Int) ≤ 2 ^ r := by rw [← e]; have := Nat.one_le_two_pow (n := r); omega
 have hi' : ((i : Int) + 1) ≤ 2 ^ r := by rw [← e]; omega
 have hlen : 0 < h - a := by omega
 have q1 : 0 ≤ (i : Int) * (h - a) := Int.mul_nonneg (by omega) (by omega); have q2 : ((i : Int) + 1) * (h - a) ≤ 2 ^ r * (h - a) := Int.mul_le_mul_of_nonneg_right hi' (by omega); have q3 : ((i : Int) + 1) * (h - a) = i * (h - a) + (h - a) := by rw [Int.add_mul, Int.one_mul]
 have q4 : (2 : Int) ^ r * (h - a) = 2 ^ r * h - 2 ^ r * a := Int.mul_sub ..; have q5 : (2 : Int) ^ r * -m ≤ 2 ^ r * a := Int.mul_le_mul_of_nonneg_left h1 (by omega); have q6 : (2 : Int) ^ r * h ≤ 2 ^ r * m := Int.mul_le_mul_of_nonneg_left h2 (by omega); have q7 : (2 : Int) ^ r * -m = -(m * 2 ^ r) := by rw [Int.mul_neg, Int.mul_comm]
 have q8 : (2 : Int) ^ r * m = m * 2 ^ r := Int.mul_comm ..; generalize (2 : Int) ^ r * a = A at *
 generalize (2 : Int) ^ r * h = B at *
 generalize (2 : Int) ^ r * (h - a) = D at *
 generalize (i : Int) * (h - a) = E at *
 generalize ((i : Int) + 1) * (h - a) = F at *
 generalize m * (2 : Int) ^ r = M at *
 omega
theorem B42 {m : Int} {r : Nat} : ∀ {av hs : List Int} {is : List Nat}, L9 m av hs = true → (∀ i ∈ is, i + 1 ≤ 2 ^ r) → L9 (m * 2 ^ r) (N7 r av hs is) (K7 r av hs is) = true
 | [], _, _, _, _ => by simp [N7, L9]
 | a :: av, [], _, _, _ => by simp [N7, L9]
 | a :: av, h :: hs, [], _, _ => by simp [N7, L9]
 | a :: av, h :: hs, i :: is, hr, hi => by
   simp only [L9, Bool.and_eq_true, decide_eq_true_eq] at hr; obtain ⟨⟨⟨⟨a1, a2⟩, a3, a4⟩, a5⟩, a6⟩ := hr; obtain ⟨g1, g2, g3, g4, g5⟩ := C3r (r := r) (i := i) a1 a4 a5 (hi i (by simp)); simp only [N7, K7, L9, Bool.and_eq_true, decide_eq_true_eq]; exact ⟨⟨⟨⟨g1, g2⟩, g3, g4⟩, g5⟩, B42 a6 fun j hj => hi j (by simp [hj])⟩
def A0b : List Nat → List (List Nat)
 | [] => [[]]
 | i :: is => (A0b is).map ((2 * i) :: ·) ++ (A0b is).map ((2 * i + 1) :: ·)
def A1f (k r : Nat) (pl ph av hs : List Int) (is : List Nat) : List (Nat × List Int × List Int) := (A0b is).map fun v => D2 k (pl ++ N7 (r + 1) av hs v) (ph ++ K7 (r + 1) av hs v)
theorem C5l (k r : Nat) (pl ph av hs : List Int) : A1f k r pl ph av hs [] = [D2 k pl ph] := by
 cases av <;> cases hs <;> simp [A1f, A0b, N7, K7]
theorem C4d (k r : Nat) (pl ph av hs : List Int) (a h : Int) (i : Nat) (is : List Nat) :
 A1f k r pl ph (a :: av) (h :: hs) (i :: is) =
  A1f k r (pl ++ [2 ^ (r + 1) * a + (2 * i : Nat) * (h - a)]) (ph ++ [2 ^ (r + 1) * a + ((2 * i : Nat) + 1) * (h - a)]) av hs is ++
  A1f k r (pl ++ [2 ^ (r + 1) * a + (2 * i + 1 : Nat) * (h - a)]) (ph ++ [2 ^ (r + 1) * a + ((2 * i + 1 : Nat) + 1) * (h - a)]) av hs is := by
 simp only [A1f, A0b, List.map_append, List.map_map]
 congr 1 <;> refine List.map_congr_left fun v _ => ?_ <;> simp [N7, K7]
theorem C15 (x y : List Int) (a b : Int) : (x ++ a :: y).set x.length b = x ++ b :: y := by
 rw [List.set_append_right _ _ (Nat.le_refl _), Nat.sub_self]; rfl
theorem B7q (x y : List Int) (a : Int) : (x ++ a :: y).getD x.length 0 = a := by
 rw [List.getD_eq_getElem?_getD, List.getElem?_append_right (Nat.le_refl _), Nat.sub_self]; rfl
theorem C97 (k r : Nat) (pl ph av hs : List Int) (a h : Int) (i : Nat) (is : List Nat) (hp : ph.length = pl.length) :
 D2 (k + 1) (dbl (pl ++ dbl (N7 r (a :: av) (h :: hs) (i :: is)))) ((dbl (ph ++ dbl (K7 r (a :: av) (h :: hs) (i :: is)))).set pl.length ((pl ++ dbl (N7 r (a :: av) (h :: hs) (i :: is))).getD pl.length 0 + (ph ++ dbl (K7 r (a :: av) (h :: hs) (i :: is))).getD pl.length 0)) =
  D2 k ((pl ++ [2 ^ (r + 1) * a + (2 * i : Nat) * (h - a)]) ++ dbl (N7 r av hs is)) ((ph ++ [2 ^ (r + 1) * a + ((2 * i : Nat) + 1) * (h - a)]) ++ dbl (K7 r av hs is)) ∧
 D2 (k + 1) ((dbl (pl ++ dbl (N7 r (a :: av) (h :: hs) (i :: is)))).set pl.length ((pl ++ dbl (N7 r (a :: av) (h :: hs) (i :: is))).getD pl.length 0 + (ph ++ dbl (K7 r (a :: av) (h :: hs) (i :: is))).getD pl.length 0)) (dbl (ph ++ dbl (K7 r (a :: av) (h :: hs) (i :: is)))) =
  D2 k ((pl ++ [2 ^ (r + 1) * a + (2 * i + 1 : Nat) * (h - a)]) ++ dbl (N7 r av hs is)) ((ph ++ [2 ^ (r + 1) * a + ((2 * i + 1 : Nat) + 1) * (h - a)]) ++ dbl (K7 r av hs is)) := by
 have e : (2 : Int) ^ (r + 1) * a = 2 * (2 ^ r * a) := by rw [Int.pow_succ, Int.mul_comm (2 ^ r) 2, Int.mul_assoc]
 have c1 : (((2 * i : Nat) : Int)) * (h - a) = 2 * (i * (h - a)) := by push_cast; rw [Int.mul_assoc]
 have c2 : (((2 * i : Nat) : Int) + 1) * (h - a) = 2 * (i * (h - a)) + (h - a) := by rw [Int.add_mul, c1, Int.one_mul]
 have c3 : (((2 * i + 1 : Nat) : Int)) * (h - a) = 2 * (i * (h - a)) + (h - a) := by rw [← c2]; push_cast; rfl
 have c4 : (((2 * i + 1 : Nat) : Int) + 1) * (h - a) = 2 * (i * (h - a)) + (h - a) + (h - a) := by rw [Int.add_mul, c3, Int.one_mul]
 have c5 : ((i : Int) + 1) * (h - a) = i * (h - a) + (h - a) := by rw [Int.add_mul, Int.one_mul]
 rw [N7, K7, S5, S5, B7q, ← hp, B7q, e, c1, c2, c3, c4, c5]; generalize (2 : Int) ^ r * a = A; generalize (i : Int) * (h - a) = E; generalize h - a = D; have key : 2 * (A + E) + 2 * (A + (E + D)) = 2 * (2 * A + (2 * E + D)) := by omega
 have k1 : 2 * (A + E) = 2 * A + 2 * E := by omega
 have k2 : 2 * (A + (E + D)) = 2 * A + (2 * E + D + D) := by omega
 constructor
 ·rw [key, C0y, C15, k1, A6v, List.append_assoc, List.append_assoc]; rfl
 ·rw [key, hp, C0y, C15, k2, A6v, List.append_assoc, List.append_assoc]; rfl
def A1r : List Nat → List Nat → Bool
 | i :: is, j :: js => if i = j then A1r is js else decide (i < j)
 | _, _ => false
def A47 {α : Type} (lt : α → α → Bool) (x : α) (out : List α) : Nat → Nat
 | 0 => 0
 | k + 1 => match out[k]? with
   | some y => if lt x y then A47 lt x out k else k + 1
   | none => k + 1
def B4z {α : Type} (lt : α → α → Bool) (out : List α) (x : α) : List α := out.take (A47 lt x out out.length) ++ x :: out.drop (A47 lt x out out.length)
def D4a {α : Type} (lt : α → α → Bool) (l : List α) : List α := l.foldl (B4z lt) []
def B1k (n : Nat) : Nat → List (List Nat)
 | 0 => [List.replicate n 0]
 | r + 1 => (B1k n r).flatMap A0b
def n9 (m : Nat) : Nat → List (List Nat)
 | 0 => [[]]
 | n + 1 => (n9 m n).flatMap fun l => (List.range m).map fun i => l ++ [i]
theorem C7y : ∀ n : Fin 4, ∀ t : Fin 3, D4a A1r (B1k n.val t.val) = n9 (2 ^ t.val) n.val := by decide +kernel
end Go.Proofs.YtmdeppkfboaepaaGreat
namespace Go.Proofs.YtmdeppkfboaepaaGreat
open Go.Ab Ints
structure BX where
 k : Nat
 s : Value
 t : Value
 lo : List Int
 hi : List Int
def bxc (x : BX) : List Value := [.int .i64 x.k, x.s, x.t]
def bxv (x : BX) : Value := .agg #[.int .i64 x.k, x.s, x.t]
def dat (x : BX) : Nat × List Int × List Int := (x.k, x.lo, x.hi)
theorem B90 (x : BX) : C2 (bxv x) = some (bxc x) := rfl
def bxs (l : List BX) : List Value := l.flatMap bxc
theorem X8 (x : BX) (l : List BX) : bxs (x :: l) = bxc x ++ bxs l := rfl
theorem C4z (l m : List BX) : bxs (l ++ m) = bxs l ++ bxs m := by simp [bxs]
theorem B59 (l : List BX) : (bxs l).length = l.length * 3 := by
 induction l with
 | nil => rfl
 | cons x l ih => rw [X8, List.length_append, ih, List.length_cons]; simp [bxc]; omega
theorem C45 : ∀ {l : List BX} {i : Nat} {x : BX}, l[i]? = some x → ((bxs l).drop (i * 3)).take 3 = bxc x
 | [], i, x, h => by simp at h
 | a :: l, 0, x, h => by
   simp only [List.getElem?_cons_zero, Option.some.injEq] at h; subst h; rw [X8]; rfl
 | a :: l, i + 1, x, h => by
   have e : (bxs (a :: l)).drop ((i + 1) * 3) = (bxs l).drop (i * 3) := by
    rw [X8, List.drop_append, List.drop_of_length_le (by simp [bxc]; omega), List.nil_append]
    congr 1
    simp [bxc]; omega
   rw [e]; exact C45 (by simpa using h)
theorem C85 (l : List BX) (k : Nat) : (bxs l).take (k * 3) = bxs (l.take k) := by
 induction l generalizing k with
 | nil => simp [bxs]
 | cons a l ih =>
   cases k with
   | zero => simp [bxs]
   | succ k =>
     rw [X8, List.take_succ_cons, X8, List.take_append, ← ih k]; rw [List.take_of_length_le (by simp [bxc]; omega)]
     congr 2
     simp [bxc]; omega
theorem C8p (l : List BX) (k : Nat) : (bxs l).drop (k * 3) = bxs (l.drop k) := by
 induction l generalizing k with
 | nil => simp [bxs]
 | cons a l ih =>
   cases k with
   | zero => simp
   | succ k =>
     rw [X8, List.drop_succ_cons, List.drop_append, ← ih k, List.drop_of_length_le (by simp [bxc]; omega), List.nil_append]
     congr 1
     simp [bxc]; omega
theorem C40 (a l x : List Value) (o : Nat) : F8 (a ++ l) (a.length + o) x = a ++ F8 l o x := by
 simp only [F8, List.take_append, List.drop_append, List.append_assoc]; rw [List.take_of_length_le (by omega), List.drop_of_length_le (by omega)]; simp [Nat.add_sub_cancel_left, Nat.add_assoc]
theorem C54 : ∀ {l : List BX} {i : Nat} (x : BX), i < l.length → F8 (bxs l) (i * 3) (bxc x) = bxs (l.set i x)
 | [], i, x, h => by simp at h
 | a :: l, 0, x, h => by simp [F8, X8, bxc]
 | a :: l, i + 1, x, h => by
   rw [List.set_cons_succ, X8, X8, show (i + 1) * 3 = (bxc a).length + i * 3 by simp [bxc]; omega, C40, C54 x (by simpa using h)]
def D0v (H : A1) (v : Value) (es : List BX) : Prop := Sl H v es.length 3 (bxs es) ∧ ∀ x ∈ es, SlI H x.s x.lo ∧ SlI H x.t x.hi
theorem D0v.lenV {H : A1} {v : Value} {es : List BX} (h : D0v H v es) : O6 v = some (.int .i64 es.length) := h.1.lenV
theorem D0v.at {H : A1} {v : Value} {es : List BX} (h : D0v H v es) {i : Nat} (hi : i < es.length) : ∃ b o, F1 3 v (.int .i64 i) = some (.pointer (some ⟨b, o, none⟩)) ∧ ∀ H', Ext H H' → D5 H' 3 (.pointer (some ⟨b, o, none⟩)) = some (bxv es[i]) := by
 obtain ⟨b, o, h1, h2, h3⟩ := Sl.iad h.1 .i64 (i := (i : Int)) (by omega) (by omega); have e : (i : Int).toNat = i := by omega
 rw [e, C45 (List.getElem?_eq_getElem hi)] at h3; refine ⟨b, o, h1, fun H' hx => ?_⟩; have : P6 H' b o 3 = P6 H b o 3 := by simp only [P6, hx.blk _ h2]
 simp only [D5, this, h3, Option.map_some]; rfl
structure F3 (H : A1) (lo : Nat) (P : Nat → Prop) (b : Nat) (v : Value) (es : List BX) : Prop where
 vec : Vec H b v es.length 3 (bxs es)
 low : lo ≤ b
 st : (v = .slice none 0 0 ∧ es = []) ∨ b < H.next
 el : ∀ x ∈ es, ∃ c d, C0 H c x.s x.lo ∧ C0 H d x.t x.hi ∧ P c ∧ c < H.next ∧ P d ∧ d < H.next ∧ c ≠ b ∧ d ≠ b
theorem F3.nilL (H : A1) (lo b : Nat) (P : Nat → Prop) (h : lo ≤ b) : F3 H lo P b (.slice none 0 0) [] := ⟨Vec.nil _ _ _, h, .inl ⟨rfl, rfl⟩, by simp⟩
theorem F3.ext {H H' : A1} {lo b : Nat} {P : Nat → Prop} {v : Value} {es : List BX} (h : F3 H lo P b v es) (hx : Ext H H') : F3 H' lo P b v es := by
 have hn := hx.next; refine ⟨Vec.ext h.vec hx, h.low, h.st.imp id fun h => by omega, fun x hxm => ?_⟩; obtain ⟨c, d, g1, g2, g3, g4, g5, g6, g7, g8⟩ := h.el x hxm; exact ⟨c, d, Vec.ext g1 hx, Vec.ext g2 hx, g3, by omega, g5, by omega, g7, g8⟩
theorem F3.slb {H : A1} {lo b : Nat} {P : Nat → Prop} {v : Value} {es : List BX} (h : F3 H lo P b v es) : D0v H v es :=
 ⟨h.vec.sl, fun x hx => by obtain ⟨c, d, g1, g2, _⟩ := h.el x hx; exact ⟨Vec.sl g1, Vec.sl g2⟩⟩
theorem F3.lower {H : A1} {lo lo' b : Nat} {P P' : Nat → Prop} {v : Value} {es : List BX} (h : F3 H lo P b v es) (hl : lo' ≤ b) (hP : ∀ c, c < H.next → P c → P' c) : F3 H lo' P' b v es :=
 ⟨h.vec, hl, h.st, fun x hx => by obtain ⟨c, d, g1, g2, g3, g4, g5, g6, g7, g8⟩ := h.el x hx; exact ⟨c, d, g1, g2, hP c g4 g3, g4, hP d g6 g5, g6, g7, g8⟩⟩
theorem F3.appendX {lim : Nat} {H0 H H2 : A1} {lo b : Nat} {P : Nat → Prop} {v w : Value} {es es2 : List BX} (h : F3 H lo P b v es) (hlim : lim ≤ lo) (hx0 : Ext H0 H) (hlo : H0.next ≤ lo) (hloH : lo ≤ H.next) (hx : Ext H H2) (hw : Sl H2 w es2.length 3 (bxs es2))
 (hel : ∀ x ∈ es2, ∃ c d, C0 H2 c x.s x.lo ∧ C0 H2 d x.t x.hi ∧ P c ∧ c < H2.next ∧ P d ∧ d < H2.next ∧ ((v = .slice none 0 0 ∧ es = []) ∨ c ≠ b ∧ d ≠ b)) (hn : es.length + es2.length ≤ 1000000) :
 ∃ v' H3 b', E4 lim H2 3 56 v w = some (v', H3) ∧ F3 H3 lo P b' v' (es ++ es2) ∧ Ext H0 H3 ∧ (∀ c, c < H2.next → ((v = .slice none 0 0 ∧ es = []) ∨ c ≠ b) → H3.blk c = H2.blk c) ∧ H2.next ≤ H3.next ∧ (b' = b ∨ H2.next ≤ b') := by
 have hnx := hx.next; by_cases hs2 : es2 = []
 ·subst hs2; refine ⟨v, H2, b, B3l (Vec.ext h.vec hx) hw, ?_, hx0.trans hx, fun _ _ _ => rfl, Nat.le_refl _, .inl rfl⟩; rw [List.append_nil]; exact h.ext hx
 obtain ⟨b0, hv0, hb0, hb0r⟩ : ∃ b0, Vec H2 b0 v es.length 3 (bxs es) ∧ lo ≤ b0 ∧ (¬ (v = .slice none 0 0 ∧ es = []) ∧ b0 = b ∧ b0 < H.next ∨ (v = .slice none 0 0 ∧ es = []) ∧ H2.next < b0) := by
  by_cases hz : v = .slice none 0 0 ∧ es = []
  ·obtain ⟨rfl, rfl⟩ := hz; exact ⟨H2.next + 1, Vec.nil _ _ _, by omega, .inr ⟨⟨rfl, rfl⟩, by omega⟩⟩
  ·exact ⟨b, Vec.ext h.vec hx, h.low, .inl ⟨hz, rfl, h.st.resolve_left hz⟩⟩
 obtain ⟨v', H3, b', g1, g2, g3, g4, g5⟩ := hv0.append (lim := lim) (by omega) hw (by decide) (bytes := 56) (by omega); have hpos : es2.length ≠ 0 := fun e => hs2 (List.length_eq_zero_iff.1 e)
 have hb3 : b' < H3.next := (g2.blk (by omega)).elim fun _ h => h.2
 have hgn := g4.next; refine ⟨v', H3, b', g1, ⟨by rw [List.length_append, C4z]; exact g2, by omega, .inr hb3, fun x hxm => ?_⟩, Chg.ext (hx0.trans hx) g4 (by omega), fun c hc hcb => g4.blk c hc (by rcases hb0r with ⟨hz, rfl, _⟩ | ⟨_, e⟩; exact hcb.resolve_left hz; omega), hgn, by rcases g3 with rfl | ⟨rfl, _⟩; rcases hb0r with ⟨_, e, _⟩ | ⟨_, e⟩; exact .inl e; exact .inr (by omega); exact .inr (Nat.le_refl _)⟩; have one : ∃ c d, C0 H2 c x.s x.lo ∧ C0 H2 d x.t x.hi ∧ P c ∧ c < H2.next ∧ P d ∧ d < H2.next ∧ c ≠ b0 ∧ d ≠ b0 := by
  rcases List.mem_append.1 hxm with hm | hm
  ·obtain ⟨c, d, k1, k2, k3, k4, k5, k6, k7, k8⟩ := h.el x hm; refine ⟨c, d, Vec.ext k1 hx, Vec.ext k2 hx, k3, by omega, k5, by omega, ?_⟩; rcases hb0r with ⟨_, rfl, _⟩ | ⟨_, e⟩
   ·exact ⟨k7, k8⟩
   ·omega
  ·obtain ⟨c, d, k1, k2, k3, k4, k5, k6, k7⟩ := hel x hm; refine ⟨c, d, k1, k2, k3, k4, k5, k6, ?_⟩; rcases hb0r with ⟨hz, rfl, hlt⟩ | ⟨_, e⟩
   ·exact k7.resolve_left hz
   ·omega
 obtain ⟨c, d, k1, k2, k3, k4, k5, k6, k7, k8⟩ := one; refine ⟨c, d, Vec.chg k1 g4 k7, Vec.chg k2 g4 k8, k3, by omega, k5, by omega, ?_⟩; rcases g3 with rfl | ⟨rfl, _⟩
 ·exact ⟨k7, k8⟩
 ·omega
theorem F3.appendL {lim : Nat} {H0 H H2 : A1} {lo b : Nat} {P : Nat → Prop} {v w : Value} {es es2 : List BX} (h : F3 H lo P b v es) (hlim : lim ≤ lo) (hx0 : Ext H0 H) (hlo : H0.next ≤ lo) (hloH : lo ≤ H.next) (hx : Ext H H2) (hw : Sl H2 w es2.length 3 (bxs es2))
 (hel : ∀ x ∈ es2, ∃ c d, C0 H2 c x.s x.lo ∧ C0 H2 d x.t x.hi ∧ P c ∧ c < H2.next ∧ P d ∧ d < H2.next ∧ ((v = .slice none 0 0 ∧ es = []) ∨ c ≠ b ∧ d ≠ b)) (hn : es.length + es2.length ≤ 1000000) :
 ∃ v' H3 b', E4 lim H2 3 56 v w = some (v', H3) ∧ F3 H3 lo P b' v' (es ++ es2) ∧ Ext H0 H3 := by
 obtain ⟨v', H3, b', h1, h2, h3, _⟩ := h.appendX hlim hx0 hlo hloH hx hw hel hn; exact ⟨v', H3, b', h1, h2, h3⟩
theorem B43 (x : BX) : bxs [x] = bxc x := by simp [bxs]
theorem A08 (H : A1) (x : BX) (hs : C2 x.s = some [x.s]) (ht : C2 x.t = some [x.t]) : E0 H 1 [.int .i64 0, .slice none 0 0, .slice none 0 0] [(0, 3, bxv x)] = some (.slice (some ⟨H.next, 0, some 0⟩) 1 1, H.alloc (bxc x)) := by
 simp [E0, C9, bxv, C2, bxc]
theorem C4i (H : A1) (x y : BX) : E0 H 2 [.int .i64 0, .slice none 0 0, .slice none 0 0, .int .i64 0, .slice none 0 0, .slice none 0 0] [(0, 3, bxv x), (3, 3, bxv y)] = some (.slice (some ⟨H.next, 0, some 0⟩) 2 2, H.alloc (bxs [x, y])) := by
 simp [E0, C9, bxv, C2, bxc, bxs]
end Go.Proofs.YtmdeppkfboaepaaGreat
namespace Go.Proofs.YtmdeppkfboaepaaGreat
open Go.Ab Ints
theorem D3k (a b : Value) (k l : Int) : C9 [a, b] [(0, 1, .int .i64 k), (1, 1, .int .i64 l)] = some [vi k, vi l] := by simp [C9, C2]
theorem C4l (lim : Nat) (n : Int) (k : Nat) (H : A1) (hl : lim ≤ H.next) (hk : k ≤ 24) (hn : n.natAbs ≤ 1099511627776) :
 A5 Tryz.prog lim A7s [.int .i64 n, .int .i64 k] H fun v H' => (∃ N K, v = .tuple #[dyV N K, .bool true] ∧ Low n k N K) ∧ Ext H H' := by
 refine A5t.go rfl ?_; unfold A2s; refine A0 ?_; simp only [sS]; have hx := Ext.alloc H [.int .i64 0, .int .i64 0]; have hr : (H.alloc [.int .i64 0, .int .i64 0]).blk H.next = some [.int .i64 0, .int .i64 0] := A6 _ _; have hrl : H.next < (H.alloc [.int .i64 0, .int .i64 0]).next := Nat.lt_succ_self _; generalize H.alloc [.int .i64 0, .int .i64 0] = H1 at hx hr hrl ⊢; generalize hre : H.next = r at *
 have e2 : ¬ ((2 : Int) = 0) := by decide
 refine N9 (fun e' H' => ∃ K : Nat, Low n k n K ∧ (n = 0 → K = 0) ∧ H' = H1 ∧ e' = [.int .i64 n, .int .i64 (K : Int), .pointer (some ⟨r, 0, none⟩), .bool false, undef]) ?_ ?_
 ·refine D0 (decide (n = 0) && decide (0 < (k : Int))) ?_ (fun hg => ?_) (fun hg => ?_)
  ·by_cases h0 : n = 0
   ·have d0 : (n == 0) = true := by simpa using h0
    simp only [sS, d0]; simp [h0]
   ·have d0 : (n == 0) = false := by simpa using h0
    simp only [sS, d0]; simp [h0]
  ·simp only [Bool.and_eq_true, decide_eq_true_eq] at hg; refine A4 ?_; simp only [sS]; simp +decide only [sQ]; refine ⟨0, ⟨by rw [hg.1]; simp, by omega, Nat.le_refl _⟩, fun _ => rfl, trivial, rfl⟩
  ·refine A2 ?_; simp +decide only [sQ]; refine ⟨k, ⟨rfl, Nat.le_refl _, Nat.le_refl _⟩, fun h0 => ?_, trivial, rfl⟩; subst h0; simp at hg; omega
 rintro e' H2 ⟨K0, hK0, hz0, rfl, rfl⟩; refine A7 ?_; refine B9 (fun j e' H' => ∃ (N : Int) (K : Nat), K = j ∧ Low n k N K ∧ H' = H2 ∧ e' = [.int .i64 N, .int .i64 (K : Int), .pointer (some ⟨r, 0, none⟩), .bool false, undef]) K0 ⟨n, K0, rfl, hK0, rfl, rfl⟩ ?_; clear hK0 hz0; rintro j e' H2 ⟨N, K, rfl, hK, rfl, rfl⟩; obtain ⟨h1, h2, h3⟩ := hK; refine D7 (decide (0 < (K : Int)) && (N.tmod 2 == 0)) ?_ (fun hg => ?_) (fun hg => ?_)
 ·by_cases h0 : 0 < (K : Int)
  ·have d0 : decide ((K : Int) > 0) = true := by simpa using h0
   simp only [sS, d0, e2]; simp [h0]
  ·have d0 : decide ((K : Int) > 0) = false := by simpa using h0
   simp only [sS, d0]; simp [h0]
 ·simp only [Bool.and_eq_true, decide_eq_true_eq, beq_iff_eq] at hg; obtain ⟨K', rfl⟩ : ∃ K', K = K' + 1 := ⟨K - 1, by omega⟩; have t1 := Int.mul_tdiv_add_tmod N 2; have t4 : (N.tdiv 2).natAbs ≤ N.natAbs := by
   rw [Int.natAbs_tdiv]; exact Nat.div_le_self _ _
  obtain ⟨M, hM⟩ : ∃ M, N.tdiv 2 = M := ⟨_, rfl⟩; rw [hM] at t1 t4; have w1 : IntKind.i64.wrap M = M := E3 (by omega) (by omega); have w2 : IntKind.i64.wrap (((K' + 1 : Nat) : Int) - 1) = (K' : Int) := by rw [show ((K' + 1 : Nat) : Int) - 1 = (K' : Int) by omega]; exact J0 (by omega)
  refine A2 ?_; simp +decide only [sQ]; refine A8 ?_; refine A0 ?_; simp only [sS, e2, hM, w1]; refine A4 ?_; simp only [sS, w2]; simp +decide only [sQ]; refine C6.mk K' (by omega) ⟨M, K', rfl, ⟨?_, by omega, by omega⟩, rfl, rfl⟩; have e : N = 2 * M := by omega
  have e3 : n * 2 ^ (K' + 1) = 2 * (n * 2 ^ K') := by rw [Int.pow_succ, Int.mul_comm (2 ^ K') 2, Int.mul_left_comm]
  have e4 : 2 * M * 2 ^ k = 2 * (M * 2 ^ k) := Int.mul_assoc _ _ _; rw [e, e3, e4] at h1; omega
 ·refine B8 ?_; simp +decide only [sQ, reduceIte]; have ho : K = 0 ∨ N.tmod 2 ≠ 0 := by
   simp only [Bool.and_eq_false_iff, decide_eq_false_iff_not, beq_eq_false_iff_ne] at hg; rcases hg with hg | hg
   ·left; omega
   ·right; simpa using hg
  have hnx := hx.next; refine A0 ?_; simp only [sS, D3k]; have hst : C8 lim (H2.alloc [.int .i64 0, .int .i64 0]) 2 (.pointer (some ⟨H2.next, 0, none⟩)) (.agg #[vi N, vi (K : Int)]) = some (undef, (H2.alloc [.int .i64 0, .int .i64 0]).put H2.next [vi N, vi (K : Int)]) := X4 (by omega) (A6 _ _); simp only [sS, hst]; have hx2 : Ext H2 ((H2.alloc [.int .i64 0, .int .i64 0]).put H2.next [vi N, vi (K : Int)]) := Chg.ext (Ext.alloc _ _) (Chg.put _ _ _) (Nat.le_refl _); have ho4 : ((H2.alloc [.int .i64 0, .int .i64 0]).put H2.next [vi N, vi (K : Int)]).blk H2.next = some [vi N, vi (K : Int)] := D3 _ _ _; have hl4 : H2.next < ((H2.alloc [.int .i64 0, .int .i64 0]).put H2.next [vi N, vi (K : Int)]).next := Nat.lt_succ_self _; generalize (H2.alloc [.int .i64 0, .int .i64 0]).put H2.next [vi N, vi (K : Int)] = H3 at hx2 ho4 hl4 ⊢; refine A9 ?_; simp only [sS, Z9 ho4]; refine (B3g lim N K H3 (by omega) (by omega) ho).mono ?_; rintro _ H4 ⟨rfl, hx4⟩; have ho5 : H4.blk H2.next = some [vi N, vi (K : Int)] := by rw [hx4.blk _ hl4]; exact ho4
  have hr4 : H4.blk r = some [.int .i64 0, .int .i64 0] := by rw [(hx2.trans hx4).blk _ hrl]; exact hr
  simp only [sS]; refine C4.false_ (A2 ?_); simp +decide only [sQ]; refine A0 ?_; simp only [sS, Z9 ho5, X4 (lim := lim) (show lim ≤ r by omega) hr4]; refine A3 ?_; simp +decide only [sQ, Z9 (D3 _ _ _)]; exact ⟨⟨N, K, rfl, h1, h2, h3⟩, Chg.ext ((hx.trans hx2).trans hx4) (Chg.put _ _ _) (by omega)⟩
theorem B0r (lim : Nat) (n : Int) (k : Nat) (H : A1) (hl : lim ≤ H.next) (hk : k ≤ 24) (hn : n.natAbs ≤ 1099511627776) :
 A5 Tryz.prog lim A44 [.int .i64 n, .int .i64 k] H fun v H' => (∃ N K, v = dyV N K ∧ Low n k N K) ∧ Ext H H' := by
 refine A3i.go rfl ?_; unfold u5; refine A0 ?_; simp only [sS]; have hx := Ext.alloc H [.int .i64 0, .int .i64 0]; have hr : (H.alloc [.int .i64 0, .int .i64 0]).blk H.next = some [.int .i64 0, .int .i64 0] := A6 _ _; have hrl : H.next < (H.alloc [.int .i64 0, .int .i64 0]).next := Nat.lt_succ_self _; generalize H.alloc [.int .i64 0, .int .i64 0] = H1 at hx hr hrl ⊢; have hnx := hx.next; refine A0 ?_; simp only [sS]; refine (C4l lim n k H1 (by omega) hk hn).mono ?_; rintro _ H2 ⟨⟨N, K, rfl, hlow⟩, hx2⟩; have hnx2 := hx2.next; have hst : C8 lim (H2.alloc [.int .i64 0, .int .i64 0]) 2 (.pointer (some ⟨H2.next, 0, none⟩)) (dyV N K) = some (undef, (H2.alloc [.int .i64 0, .int .i64 0]).put H2.next [vi N, vi (K : Int)]) := X4 (by omega) (A6 _ _); simp only [sS, hst]; have hx3 : Ext H2 ((H2.alloc [.int .i64 0, .int .i64 0]).put H2.next [vi N, vi (K : Int)]) := Chg.ext (Ext.alloc _ _) (Chg.put _ _ _) (Nat.le_refl _); have ho4 : ((H2.alloc [.int .i64 0, .int .i64 0]).put H2.next [vi N, vi (K : Int)]).blk H2.next = some [vi N, vi (K : Int)] := D3 _ _ _; generalize (H2.alloc [.int .i64 0, .int .i64 0]).put H2.next [vi N, vi (K : Int)] = H3 at hx3 ho4 ⊢; have hr3 : H3.blk H.next = some [.int .i64 0, .int .i64 0] := by rw [(hx2.trans hx3).blk _ hrl]; exact hr
 refine A0 ?_; simp only [sS, Z9 ho4, X4 (lim := lim) hl hr3]; refine A3 ?_; simp +decide only [sQ, Z9 (D3 _ _ _)]; exact ⟨⟨N, K, rfl, hlow⟩, Chg.ext ((hx.trans hx2).trans hx3) (Chg.put _ _ _) (Nat.le_refl _)⟩
end Go.Proofs.YtmdeppkfboaepaaGreat
namespace Go.Proofs.YtmdeppkfboaepaaGreat
open Go.Ab Ints
def D1u (lo : Nat) (H : A1) (b c : Nat) (v w : Value) (l m : List Int) : Prop := C0 H b v l ∧ C0 H c w m ∧ lo ≤ b ∧ lo ≤ c ∧ (l = [] ∧ m = [] ∧ v = .slice none 0 0 ∧ w = .slice none 0 0 ∨ b ≠ c ∧ b < H.next ∧ c < H.next)
theorem D1u.push {lim lo : Nat} {H0 H : A1} {b c : Nat} {v w : Value} {l m : List Int} (h : D1u lo H b c v w l m) (hlim : lim ≤ lo) (hx0 : Ext H0 H) (hlo : H0.next ≤ lo) (hloH : lo ≤ H.next) (x y : Int) (hl : l.length ≤ 1000) (hm : m.length ≤ 1000) :
 ∃ v' H1 w' H2 b' c', E4 lim (H.alloc [vi x]) 1 8 v (.slice (some ⟨H.next, 0, some 0⟩) 1 1) = some (v', H1) ∧ E4 lim (H1.alloc [vi y]) 1 8 w (.slice (some ⟨H1.next, 0, some 0⟩) 1 1) = some (w', H2) ∧ D1u lo H2 b' c' v' w' (l ++ [x]) (m ++ [y]) ∧ Ext H0 H1 ∧ Ext H0 H2 := by
 obtain ⟨h1, h2, h3, h4, h5⟩ := h; obtain ⟨v', H1, b', e1, e2, e3, e4, e5, e6⟩ := n5 (lim := lim) (bytes := 8) h1 (vi x) (by omega) (by omega); have hn1 := e5.next; obtain ⟨c0, k1, k2, k3⟩ : ∃ c0, C0 H1 c0 w m ∧ lo ≤ c0 ∧ (c0 ≠ b' ∧ (c0 < H1.next ∨ w = .slice none 0 0 ∧ m = [] ∧ H1.next < c0)) := by
  rcases h5 with ⟨rfl, rfl, rfl, rfl⟩ | ⟨g1, g2, g3⟩
  ·exact ⟨H1.next + 1, Vec.nil _ _ _, by omega, by omega, .inr ⟨rfl, rfl, by omega⟩⟩
  ·refine ⟨c, Vec.chg h2 e5 (fun e => g1 e.symm), h4, ?_, .inl (by omega)⟩; rcases e3 with rfl | e3
   ·exact fun e => g1 e.symm
   ·omega
 obtain ⟨w', H2, c', f1, f2, f3, f4, f5, f6⟩ := n5 (lim := lim) (bytes := 8) k1 (vi y) (by omega) (by omega); have hn2 := f5.next; have hx1 := Chg.ext hx0 e5 (by omega); refine ⟨v', H1, w', H2, b', c', e1, f1, ⟨?_, ?_, by omega, by omega, .inr ⟨?_, by omega, f4⟩⟩, hx1, Chg.ext hx1 f5 (by omega)⟩
 ·exact Vec.chg (C0.snoc e2) f5 (fun e => k3.1 e.symm)
 ·exact C0.snoc f2
 ·rcases f3 with rfl | f3
  ·exact fun e => k3.1 e.symm
  ·omega
def Sm (l : List Int) : Prop := ∀ x ∈ l, x.natAbs ≤ 1000000000000
theorem Sm.get {l : List Int} (h : Sm l) {i : Nat} (hi : i < l.length) : l[i].natAbs ≤ 1000000000000 := h _ (List.getElem_mem hi)
theorem C8h (lim : Nat) (v : Value) (k : Int) (low high : List Int) (H : A1) (hl : lim ≤ H.next) (hv : V6 H v k low high) (hn : low.length ≤ 900) (hlen : high.length = low.length) (hs1 : Sm low) (hs2 : Sm high) :
 A5 Tryz.prog lim B8d [v] H fun v H' => (∃ s t b c, v = .tuple #[s, t] ∧ H.next ≤ b ∧ H.next ≤ c ∧ C0 H' b s (dbl low) ∧ C0 H' c t (dbl high)) ∧ Ext H H' := by
 obtain ⟨s, t, rfl, hs, ht⟩ := hv; refine B7u.go rfl ?_; unfold A79; refine A0 ?_; simp only [sS, M5, C2]; have hx := Ext.alloc H [.int .i64 k, s, t]; have hbp : (H.alloc [.int .i64 k, s, t]).blk H.next = some [.int .i64 k, s, t] := A6 _ _; have hbl : H.next < (H.alloc [.int .i64 k, s, t]).next := Nat.lt_succ_self _; generalize H.alloc [.int .i64 k, s, t] = H1 at hx hbp hbl ⊢; generalize hq : H.next = q at *
 have hs' := SlI.ext hs hx; have ht' := SlI.ext ht hx; refine A0 ?_; simp only [sS]; refine C7 (A0 ?_); simp only [sS, Nat.zero_add, B7 hbp, hs'.lenV]; refine A7 ?_; have hn1 := hx.next; refine B9 (fun j e' H' => ∃ (i b c : Nat) (v4 v5 x6 x7 : Value), i + j = low.length ∧ D1u H1.next H' b c v4 v5 (dbl (low.take i)) (dbl (high.take i)) ∧ Ext H1 H' ∧ e' = [.agg #[.int .i64 k, s, t], .pointer (some ⟨q, 0, none⟩), .slice none 0 0, .slice none 0 0, v4, v5, x6, x7, s, .int .i64 low.length, .int .i64 i]) low.length ⟨0, H1.next, H1.next, .slice none 0 0, .slice none 0 0, _, _, by omega, ⟨Vec.nil _ _ _, Vec.nil _ _ _, Nat.le_refl _, Nat.le_refl _, .inl ⟨rfl, rfl, rfl, rfl⟩⟩, Ext.refl _, rfl⟩ ?_; rintro j e' H2 ⟨i, b, c, v4, v5, x6, x7, hij, h2, hx2, rfl⟩; have hn2 := hx2.next; refine A9 ?_; simp only [sS]; refine C4.split (fun hlt => ?_) (fun hlt => ?_)
 ·have hlt' : i < low.length := by simpa using hlt
  have hlt2 : i < high.length := by omega
  obtain ⟨b1, o1, u1, u2⟩ := X7 (SlI.ext hs' hx2) hlt'; have g1 : low.getD i 0 = low[i] := by simp [hlt']
  have g2 : high.getD i 0 = high[i] := by simp [hlt2]
  have m1 := hs1.get hlt'; have m2 := hs2.get hlt2; have w1 : IntKind.i64.wrap (2 * low[i]) = 2 * low[i] := E3 (by omega) (by omega); have w2 : IntKind.i64.wrap (2 * high[i]) = 2 * high[i] := E3 (by omega) (by omega); obtain ⟨v', H3, w', H4, b', c', e1, e2, e3, e4, e5⟩ := h2.push (lim := lim) (by omega) hx2 (Nat.le_refl _) hn2 (2 * low[i]) (2 * high[i]) (by rw [E2, List.length_take]; omega) (by rw [E2, List.length_take]; omega); obtain ⟨b2, o2, y1, y2⟩ := X7 (SlI.ext ht' e4) hlt2; have hbp3 : H3.blk q = some [.int .i64 k, s, t] := by rw [e4.blk _ hbl]; exact hbp
  refine A2 ?_; simp +decide only [sQ]; refine A8 ?_; refine A0 ?_; simp only [sS, u1, u2]; rw [g1]; refine A0 ?_; simp only [sS, w1, L7 _ (.int .i64 0) (x := .int .i64 (2 * low[i])) rfl, e1]; refine A4 ?_; simp only [sS, Nat.zero_add, B7 hbp3, y1, y2]; rw [g2]; simp only [sS, w2, L7 _ (.int .i64 0) (x := .int .i64 (2 * high[i])) rfl, e2]; simp +decide only [sQ]; refine A4 ?_; simp only [sS, D6 (i := i) (by omega)]; simp +decide only [sQ]; refine C6.mk (j - 1) (by omega) ⟨i + 1, b', c', v', w', _, _, by omega, ?_, e5, rfl⟩; rw [List.take_succ_eq_append_getElem hlt', List.take_succ_eq_append_getElem hlt2, B76, B76]; exact e3
 ·have hge : i = low.length := by simp at hlt; omega
  subst hge; refine B8 ?_; simp +decide only [sQ, reduceIte]; refine A0 ?_; simp only [sS]; refine A3 ?_; simp +decide only [sQ]; rw [List.take_length, ← hlen, List.take_length] at h2; obtain ⟨g1, g2, g3, g4, _⟩ := h2; exact ⟨⟨v4, v5, b, c, rfl, by omega, by omega, g1, g2⟩, hx.trans hx2⟩
def C8s (H : A1) (P : Nat → Prop) (v : Value) (x : BX) : Prop := v = bxv x ∧ ∃ c d, C0 H c x.s x.lo ∧ C0 H d x.t x.hi ∧ P c ∧ c < H.next ∧ P d ∧ d < H.next
theorem C8s.ext {H H' : A1} {P : Nat → Prop} {v : Value} {x : BX} (h : C8s H P v x) (hx : Ext H H') : C8s H' P v x := by
 obtain ⟨rfl, c, d, h1, h2, h3, h4, h5, h6⟩ := h; have := hx.next; exact ⟨rfl, c, d, Vec.ext h1 hx, Vec.ext h2 hx, h3, by omega, h5, by omega⟩
theorem C3v (lim : Nat) (v : Value) (k : Nat) (low high : List Int) (side : Nat) (H : A1) (hl : lim ≤ H.next) (hv : V6 H v k low high) (hside : side < low.length) (hn : low.length ≤ 900) (hlen : high.length = low.length) (hk : k ≤ 1000) (hs1 : Sm low) (hs2 : Sm high)
 (hg1 : G0 (D2 (k + 1) (dbl low) ((dbl high).set side (low.getD side 0 + high.getD side 0))).1 (D2 (k + 1) (dbl low) ((dbl high).set side (low.getD side 0 + high.getD side 0))).2.1 (D2 (k + 1) (dbl low) ((dbl high).set side (low.getD side 0 + high.getD side 0))).2.2 = true)
 (hg2 : G0 (D2 (k + 1) ((dbl low).set side (low.getD side 0 + high.getD side 0)) (dbl high)).1 (D2 (k + 1) ((dbl low).set side (low.getD side 0 + high.getD side 0)) (dbl high)).2.1 (D2 (k + 1) ((dbl low).set side (low.getD side 0 + high.getD side 0)) (dbl high)).2.2 = true) :
 A5 Tryz.prog lim B4a [v, .int .i64 side] H fun v H' => (∃ (w : Value) (x y : BX) (b : Nat), v = .tuple #[w, .bool true] ∧ dat x = D2 (k + 1) (dbl low) ((dbl high).set side (low.getD side 0 + high.getD side 0)) ∧ dat y = D2 (k + 1) ((dbl low).set side (low.getD side 0 + high.getD side 0)) (dbl high) ∧ F3 H' H.next (H.next ≤ ·) b w [x, y]) ∧ Ext H H' := by
 obtain ⟨s, t, rfl, hs, ht⟩ := hv; refine B2h.go rfl ?_; unfold A4z; refine A0 ?_; simp only [sS, M5, C2]; have hx := Ext.alloc H [.int .i64 (k : Int), s, t]; have hbp : (H.alloc [.int .i64 (k : Int), s, t]).blk H.next = some [.int .i64 (k : Int), s, t] := A6 _ _; have hbl : H.next < (H.alloc [.int .i64 (k : Int), s, t]).next := Nat.lt_succ_self _; generalize H.alloc [.int .i64 (k : Int), s, t] = H1 at hx hbp hbl ⊢; have hs' := SlI.ext hs hx; have ht' := SlI.ext ht hx; have hn1 := hx.next; generalize hq : H.next = q at *
 refine A0 ?_; simp only [sS, E9 hbp]; refine (C8h lim _ k low high H1 (by omega) ⟨s, t, rfl, hs', ht'⟩ hn hlen hs1 hs2).mono ?_; rintro _ H2 ⟨⟨lo, hi, b, c, rfl, hb, hc, hlo, hhi⟩, hx2⟩; have hn2 := hx2.next; simp only [sS]; have hbp2 : H2.blk q = some [.int .i64 (k : Int), s, t] := by rw [hx2.blk _ hbl]; exact hbp
 have hside2 : side < high.length := by omega
 obtain ⟨b1, o1, u1, u2⟩ := X7 (SlI.ext hs' hx2) hside; obtain ⟨b2, o2, y1, y2⟩ := X7 (SlI.ext ht' hx2) hside2; have m1 := hs1.get hside; have m2 := hs2.get hside2; have g1 : low.getD side 0 = low[side] := by simp [hside]
 have g2 : high.getD side 0 = high[side] := by simp [hside2]
 have wm : IntKind.i64.wrap (low.getD side 0 + high.getD side 0) = low.getD side 0 + high.getD side 0 := by rw [g1, g2]; exact E3 (by omega) (by omega)
 refine A0 ?_; simp only [sS, Nat.zero_add, B7 hbp2, u1, u2, y1, y2, wm]; have hM : (low.getD side 0 + high.getD side 0).natAbs ≤ 2000000000000 := by rw [g1, g2]; omega
 generalize low.getD side 0 + high.getD side 0 = M at *
 have rngI : ∀ (l : List Int), Sm l → InR ((dbl l)) ∧ ∀ i, InR ((dbl l).set i M) := by
  intro l h; have h0 : InR (dbl l) := by
   intro x hx; obtain ⟨y, hy, rfl⟩ := List.mem_map.1 hx; have := h y hy; omega
  exact ⟨h0, fun i => h0.set i (by omega)⟩
 refine A0 ?_; simp only [sS]; refine (Ints.U0 lim lo (dbl low) H2 (by omega) (Vec.sl hlo) (by rw [E2]; omega)).mono ?_; rintro up H3 ⟨d, hd1, hd2, hup, hx3⟩; have hn3 := hx3.next; simp only [sS]; refine (Ints.U0 lim hi (dbl high) H3 (by omega) (Vec.sl (Vec.ext hhi hx3)) (by rw [E2]; omega)).mono ?_; rintro dn H4 ⟨e, he1, he2, hdn, hx4⟩; have hn4 := hx4.next; simp only [sS]; have hx24 := hx3.trans hx4; obtain ⟨p1, _⟩ := C0.at (Vec.ext hup hx4) (i := side) (by rw [E2]; exact hside); obtain ⟨cs, hst, hup5⟩ := C0.put (lim := lim) (Vec.ext hup hx4) (by omega) (i := side) (by rw [E2]; exact hside) M; refine A0 ?_; simp only [sS, p1, hst]; have hc5 : Chg d H4 (H4.put d cs) := Chg.put _ _ _; have hdn5 := Vec.chg hdn hc5 (by omega); obtain ⟨p2, _⟩ := C0.at hdn5 (i := side) (by rw [E2]; exact hside2); obtain ⟨cs2, hst2, hdn6⟩ := C0.put (lim := lim) hdn5 (by omega) (i := side) (by rw [E2]; exact hside2) M; refine A0 ?_; simp only [sS, p2, hst2]; have hc6 : Chg e (H4.put d cs) ((H4.put d cs).put e cs2) := Chg.put _ _ _; have hup6 := Vec.chg hup5 hc6 (by omega); have hx26 : Ext H2 ((H4.put d cs).put e cs2) := Chg.ext (Chg.ext hx24 hc5 (by omega)) hc6 (by omega); generalize (H4.put d cs).put e cs2 = H6 at hup6 hdn6 hx26 ⊢; clear hup5 hdn5 hc5 hc6 hst hst2 hdn hup; have hn6 := hx26.next; have hbp6 : H6.blk q = some [.int .i64 (k : Int), s, t] := by rw [hx26.blk _ (by omega)]; exact hbp2
 have hlo6 := Vec.ext hlo hx26; have hhi6 := Vec.ext hhi hx26; have hx06 := (hx.trans hx2).trans hx26; obtain ⟨q1, q1'⟩ := rngI low hs1; obtain ⟨q2, q2'⟩ := rngI high hs2; refine A0 ?_; simp only [sS, Nat.zero_add, B7 hbp6, D6 (i := k) (by omega)]; refine (A3o lim (k + 1) lo dn (dbl low) ((dbl high).set side M) H6 (by omega) (Vec.sl hlo6) (Vec.sl hdn6) (by rw [E2]; omega) (by rw [List.length_set, E2, E2]; exact hlen) (by omega) q1 (q2' side)).mono ?_; rintro _ H7 ⟨hR1, hx7⟩; have hn7 := hx7.next; simp only [G9, hg1] at hR1; rcases hR1 with ⟨h0, _⟩ | ⟨_, s1, t1, c1, d1, rfl, i1, i2, i3, i4, i5⟩
 ·cases h0
 have l1 := V1 (k + 1) (dbl low) ((dbl high).set side M) (by rw [List.length_set, E2, E2]; exact hlen); have l2 := V1 (k + 1) ((dbl low).set side M) (dbl high) (by rw [List.length_set, E2, E2]; exact hlen); rw [E2] at l1; rw [List.length_set, E2] at l2; have hst7 : C8 lim (H7.alloc [.int .i64 0, .slice none 0 0, .slice none 0 0]) 3 (.pointer (some ⟨H7.next, 0, none⟩)) (.agg #[.int .i64 ((D2 (k + 1) (dbl low) ((dbl high).set side M)).1 : Int), s1, t1]) = some (undef, H7.alloc [.int .i64 ((D2 (k + 1) (dbl low) ((dbl high).set side M)).1 : Int), s1, t1]) := E7 (by omega); simp only [sS, hst7]; have hx8 := Ext.alloc H7 [.int .i64 ((D2 (k + 1) (dbl low) ((dbl high).set side M)).1 : Int), s1, t1]; have hb8 : (H7.alloc [.int .i64 ((D2 (k + 1) (dbl low) ((dbl high).set side M)).1 : Int), s1, t1]).blk H7.next = some [.int .i64 ((D2 (k + 1) (dbl low) ((dbl high).set side M)).1 : Int), s1, t1] := A6 _ _; have hl8 : H7.next < (H7.alloc [.int .i64 ((D2 (k + 1) (dbl low) ((dbl high).set side M)).1 : Int), s1, t1]).next := Nat.lt_succ_self _; generalize H7.alloc [.int .i64 ((D2 (k + 1) (dbl low) ((dbl high).set side M)).1 : Int), s1, t1] = H8 at hx8 hb8 hl8 ⊢; have hx68 := hx7.trans hx8; have hbp8 : H8.blk q = some [.int .i64 (k : Int), s, t] := by rw [hx68.blk _ (by omega)]; exact hbp6
 refine A0 ?_; simp only [sS, Nat.zero_add, B7 hbp8, D6 (i := k) (by omega)]; refine (A3o lim (k + 1) up hi ((dbl low).set side M) (dbl high) H8 (by omega) (Vec.sl (Vec.ext hup6 hx68)) (Vec.sl (Vec.ext hhi6 hx68)) (by rw [List.length_set, E2]; omega) (by rw [List.length_set, E2, E2]; exact hlen) (by omega) (q1' side) q2).mono ?_; rintro _ H9 ⟨hR2, hx9⟩; have hn9 := hx9.next; simp only [G9, hg2] at hR2; rcases hR2 with ⟨h0, _⟩ | ⟨_, s2, t2, c2, d2, rfl, j1, j2, j3, j4, j5⟩
 ·cases h0
 have hst9 : C8 lim (H9.alloc [.int .i64 0, .slice none 0 0, .slice none 0 0]) 3 (.pointer (some ⟨H9.next, 0, none⟩)) (.agg #[.int .i64 ((D2 (k + 1) ((dbl low).set side M) (dbl high)).1 : Int), s2, t2]) = some (undef, H9.alloc [.int .i64 ((D2 (k + 1) ((dbl low).set side M) (dbl high)).1 : Int), s2, t2]) := E7 (by omega); simp only [sS, hst9]; have hx10 := Ext.alloc H9 [.int .i64 ((D2 (k + 1) ((dbl low).set side M) (dbl high)).1 : Int), s2, t2]; have hb10 : (H9.alloc [.int .i64 ((D2 (k + 1) ((dbl low).set side M) (dbl high)).1 : Int), s2, t2]).blk H9.next = some [.int .i64 ((D2 (k + 1) ((dbl low).set side M) (dbl high)).1 : Int), s2, t2] := A6 _ _; generalize H9.alloc [.int .i64 ((D2 (k + 1) ((dbl low).set side M) (dbl high)).1 : Int), s2, t2] = H10 at hx10 hb10 ⊢; have hb8' : H10.blk H7.next = some [.int .i64 ((D2 (k + 1) (dbl low) ((dbl high).set side M)).1 : Int), s1, t1] := by rw [(hx9.trans hx10).blk _ hl8]; exact hb8
 have hx710 := (hx8.trans hx9).trans hx10; refine A9 ?_; simp only [sS]; refine C4.false_ (A2 ?_); simp +decide only [sQ]; have ht2 := C4i H10 ⟨(D2 (k + 1) (dbl low) ((dbl high).set side M)).1, s1, t1, (D2 (k + 1) (dbl low) ((dbl high).set side M)).2.1, (D2 (k + 1) (dbl low) ((dbl high).set side M)).2.2⟩ ⟨(D2 (k + 1) ((dbl low).set side M) (dbl high)).1, s2, t2, (D2 (k + 1) ((dbl low).set side M) (dbl high)).2.1, (D2 (k + 1) ((dbl low).set side M) (dbl high)).2.2⟩; simp only [bxv] at ht2; refine A0 ?_; simp only [sS, E9 hb8', E9 hb10, ht2]; refine A3 ?_; simp +decide only [sQ]; have hx11 := Ext.alloc H10 (bxs [⟨(D2 (k + 1) (dbl low) ((dbl high).set side M)).1, s1, t1, (D2 (k + 1) (dbl low) ((dbl high).set side M)).2.1, (D2 (k + 1) (dbl low) ((dbl high).set side M)).2.2⟩, ⟨(D2 (k + 1) ((dbl low).set side M) (dbl high)).1, s2, t2, (D2 (k + 1) ((dbl low).set side M) (dbl high)).2.1, (D2 (k + 1) ((dbl low).set side M) (dbl high)).2.2⟩]); have hn10 := hx10.next; have hn11 := hx11.next; have hn710 := hx710.next; have z1 : c1 < H7.next := (Vec.blk i4 (by omega)).elim fun _ h => h.2
 have z2 : d1 < H7.next := (Vec.blk i5 (by omega)).elim fun _ h => h.2
 have z3 : c2 < H9.next := (Vec.blk j4 (by omega)).elim fun _ h => h.2
 have z4 : d2 < H9.next := (Vec.blk j5 (by omega)).elim fun _ h => h.2
 refine ⟨⟨_, ⟨_, s1, t1, _, _⟩, ⟨_, s2, t2, _, _⟩, H10.next, rfl, rfl, rfl, ⟨Vec.lit (by rw [B59]; rfl), by omega, .inr (Nat.lt_succ_self _), ?_⟩⟩, (((hx06.trans hx7).trans hx710).trans hx11)⟩; intro x hxm; simp only [List.mem_cons, List.not_mem_nil, or_false] at hxm; rcases hxm with rfl | rfl
 ·exact ⟨c1, d1, Vec.ext i4 (hx710.trans hx11), Vec.ext i5 (hx710.trans hx11), by omega, by omega, by omega, by omega, by omega, by omega⟩
 ·exact ⟨c2, d2, Vec.ext j4 (hx10.trans hx11), Vec.ext j5 (hx10.trans hx11), by omega, by omega, by omega, by omega, by omega, by omega⟩
end Go.Proofs.YtmdeppkfboaepaaGreat
namespace Go.Proofs.YtmdeppkfboaepaaGreat
open Go.Ab Ints
theorem C6x (K r : Nat) : (8 : Int) * 2 ^ (K + r) = 8 * 2 ^ K * 2 ^ r := by rw [Int.pow_add, Int.mul_assoc]
theorem B6m {K r n : Nat} {pl ph av hs : List Int} {is : List Nat} (hpl : ph.length = pl.length) (hav : hs.length = av.length) (his : is.length = av.length) (hn : pl.length + av.length = n) (h1 : 1 ≤ n) (h3 : n ≤ 3) (hK : K + r + 1 ≤ 8) (hr1 : L9 (8 * 2 ^ (K + r + 1)) pl ph = true) (hr2 : L9 (8 * 2 ^ K) av hs = true) (hi : ∀ i ∈ is, i + 1 ≤ 2 ^ r) :
 G0 (D2 (K + r + 1) (pl ++ dbl (N7 r av hs is)) (ph ++ dbl (K7 r av hs is))).1 (D2 (K + r + 1) (pl ++ dbl (N7 r av hs is)) (ph ++ dbl (K7 r av hs is))).2.1 (D2 (K + r + 1) (pl ++ dbl (N7 r av hs is)) (ph ++ dbl (K7 r av hs is))).2.2 = true := by
 have e1 := M2 r av hs is hav his; have e2 := L0 r av hs is hav his; refine C0e (by simp only [List.length_append, E2]; omega) (by simp only [List.length_append, E2]; omega) (by simp only [List.length_append, E2]; omega) hK ?_; rw [A6f _ _ _ _ _ hpl, hr1, Bool.true_and, show K + r + 1 = (K + r) + 1 from rfl, Int.pow_succ, m_pow' K r, B6d]; exact B42 hr2 hi
where
 m_pow' (K r : Nat) : (8 : Int) * (2 ^ (K + r) * 2) = 2 * (8 * 2 ^ K * 2 ^ r) := by
  rw [← C6x]; omega
theorem A9h (n : Nat) (h1 : 1 ≤ n) (h3 : n ≤ 3) : ∀ (f lim : Nat) (v : Value) (x : BX) (pl ph av hs : List Int) (is : List Nat) (K r : Nat) (P : Nat → Prop) (H : A1), lim ≤ H.next → C8s H P v x →
 dat x = D2 (K + r + 1) (pl ++ dbl (N7 r av hs is)) (ph ++ dbl (K7 r av hs is)) → ph.length = pl.length → av.length = f → hs.length = av.length → is.length = av.length → pl.length + av.length = n → K + r + 1 ≤ 8 → L9 (8 * 2 ^ (K + r + 1)) pl ph = true → L9 (8 * 2 ^ K) av hs = true → (∀ i ∈ is, i + 1 ≤ 2 ^ r) →
 A5 Tryz.prog lim A52 [v, .int .i64 pl.length] H fun v H' => (∃ w es b, v = .tuple #[w, .bool true] ∧ es.map dat = A1f (K + r + 1) r pl ph av hs is ∧ F3 H' H.next (fun c => P c ∧ c < H.next ∨ H.next ≤ c) b w es) ∧ Ext H H'
 | 0, lim, v, x, pl, ph, av, hs, is, K, r, P, H, hl, hbx, hd, hpl, hf, hav, his, hn, hK, hr1, hr2, hi => by
   have ea : av = [] := List.length_eq_zero_iff.1 hf; subst ea; have eh : hs = [] := List.length_eq_zero_iff.1 (by simpa using hav); subst eh; have ei : is = [] := List.length_eq_zero_iff.1 (by simpa using his); subst ei; have hd' : dat x = D2 (K + r + 1) pl ph := by rw [hd]; simp [N7, K7, dbl]
   obtain ⟨n1, n2⟩ := V1 (K + r + 1) pl ph hpl; rw [← hd'] at n1 n2; simp only [dat] at n1 n2; have hv := hbx; obtain ⟨rfl, c, d, g1, g2, g3, g4, g5, g6⟩ := hv; refine A4f.go rfl ?_; unfold A0x bxv; refine A0 ?_; simp only [sS, M5, C2]; have hx := Ext.alloc H [.int .i64 (x.k : Int), x.s, x.t]; have hbp : (H.alloc [.int .i64 (x.k : Int), x.s, x.t]).blk H.next = some [.int .i64 (x.k : Int), x.s, x.t] := A6 _ _; generalize H.alloc [.int .i64 (x.k : Int), x.s, x.t] = H1 at hx hbp ⊢; have hnx := hx.next; have hlv := Vec.lenV (Vec.ext g1 hx); rw [n1] at hlv; have d1 : (((pl.length : Nat) : Int) == ((pl.length : Nat) : Int)) = true := by simp
   refine A9 ?_; simp only [sS, Nat.zero_add, B7 hbp, hlv]; refine C4.true_ (A0 ?_); have hb1 := A08 H1 x (Vec.cellsV g1) (Vec.cellsV g2); simp only [bxv] at hb1; simp only [sS, E9 hbp, hb1]; refine A3 ?_; simp +decide only [sQ]; have hx2 := Ext.alloc H1 (bxc x); refine ⟨⟨_, [x], H1.next, rfl, ?_, ⟨by rw [B43]; exact Vec.lit rfl, by omega, .inr (Nat.lt_succ_self _), ?_⟩⟩, hx.trans hx2⟩
   ·rw [C5l, List.map_cons, List.map_nil, hd']
   ·intro y hy; rw [List.mem_singleton] at hy; subst hy; have := hx2.next; exact ⟨c, d, Vec.ext g1 (hx.trans hx2), Vec.ext g2 (hx.trans hx2), .inl ⟨g3, g4⟩, by omega, .inl ⟨g5, g6⟩, by omega, by omega, by omega⟩
 | f + 1, lim, v, x, pl, ph, av, hs, is, K, r, P, H, hl, hbx, hd, hpl, hf, hav, his, hn, hK, hr1, hr2, hi => by
   obtain ⟨a, av, rfl⟩ : ∃ a av', av = a :: av' := by
    cases av with
    | nil => simp at hf
    | cons a av => exact ⟨a, av, rfl⟩
   obtain ⟨h, hs, rfl⟩ : ∃ h hs', hs = h :: hs' := by
    cases hs with
    | nil => simp at hav
    | cons h hs => exact ⟨h, hs, rfl⟩
   obtain ⟨i, is, rfl⟩ : ∃ i is', is = i :: is' := by
    cases is with
    | nil => simp at his
    | cons i is => exact ⟨i, is, rfl⟩
   have hgood := B6m hpl hav his hn h1 h3 hK hr1 hr2 hi; rw [← hd] at hgood; simp only [dat] at hgood; obtain ⟨_, q2, q3, q4, q5, q6, q7⟩ := F7 hgood; have hLl : (pl ++ dbl (N7 r (a :: av) (h :: hs) (i :: is))).length = n := by simp only [List.length_append, E2, M2 r _ _ _ hav his]; omega
   have hHl : (ph ++ dbl (K7 r (a :: av) (h :: hs) (i :: is))).length = (pl ++ dbl (N7 r (a :: av) (h :: hs) (i :: is))).length := by rw [hLl]; simp only [List.length_append, E2, L0 r _ _ _ hav his]; omega
   obtain ⟨n1, n2⟩ := V1 (K + r + 1) _ _ hHl; have hh0 := D4c (K + r + 1) _ _ pl.length hHl; have hh1 := D4w (K + r + 1) _ _ pl.length hHl; obtain ⟨z0, z1⟩ := C97 (K + r + 1) r pl ph av hs a h i is hpl; rw [← hd] at hh0 hh1 n1 n2; simp only [dat] at hh0 hh1 n1 n2; rw [hLl] at n1 n2; rw [z0] at hh0; rw [z1] at hh1; simp only [List.length_cons] at hf hav his hn; have hrr := hr2; simp only [L9, Bool.and_eq_true, decide_eq_true_eq] at hrr; obtain ⟨⟨⟨⟨a1, a2⟩, a3, a4⟩, a5⟩, a6⟩ := hrr; have hi0 := hi i (by simp); have hi' : ∀ j ∈ is, j + 1 ≤ 2 ^ r := fun j hj => hi j (by simp [hj])
   have e2 : 2 ^ (r + 1) = 2 * 2 ^ r := by rw [Nat.pow_succ, Nat.mul_comm]
   have eM : (8 : Int) * 2 ^ (K + r + 1) = 8 * 2 ^ K * 2 ^ (r + 1) := by rw [Nat.add_assoc]; exact C6x K (r + 1)
   have rng1 : ∀ j : Nat, j + 1 ≤ 2 ^ (r + 1) → L9 (8 * 2 ^ (K + r + 1)) (pl ++ [2 ^ (r + 1) * a + (j : Nat) * (h - a)]) (ph ++ [2 ^ (r + 1) * a + ((j : Nat) + 1) * (h - a)]) = true := by
    intro j hj; obtain ⟨g1, g2, g3, g4, g5⟩ := C3r (r := r + 1) (i := j) a1 a4 a5 hj; rw [A6f _ _ _ _ _ hpl, hr1, Bool.true_and, eM]; simp only [L9, Bool.and_eq_true, decide_eq_true_eq]; exact ⟨⟨⟨⟨g1, g2⟩, g3, g4⟩, g5⟩, trivial⟩
   have gd1 := B6m (K := K) (r := r) (n := n) (pl := pl ++ [2 ^ (r + 1) * a + (2 * i : Nat) * (h - a)]) (ph := ph ++ [2 ^ (r + 1) * a + ((2 * i : Nat) + 1) * (h - a)]) (av := av) (hs := hs) (is := is) (by simp [hpl]) (by omega) (by omega) (by simp; omega) h1 h3 hK (rng1 (2 * i) (by omega)) a6 hi'; have gd2 := B6m (K := K) (r := r) (n := n) (pl := pl ++ [2 ^ (r + 1) * a + (2 * i + 1 : Nat) * (h - a)]) (ph := ph ++ [2 ^ (r + 1) * a + ((2 * i + 1 : Nat) + 1) * (h - a)]) (av := av) (hs := hs) (is := is) (by simp [hpl]) (by omega) (by omega) (by simp; omega) h1 h3 hK (rng1 (2 * i + 1) (by omega)) a6 hi'; have hv := hbx; obtain ⟨rfl, c, d, g1, g2, g3, g4, g5, g6⟩ := hv; refine A4f.go rfl ?_; unfold A0x; refine A0 ?_; simp only [sS, M5, B90]; have hx := Ext.alloc H (bxc x); have hbp : (H.alloc (bxc x)).blk H.next = some (bxc x) := A6 _ _; have hbl : H.next < (H.alloc (bxc x)).next := Nat.lt_succ_self _; generalize H.alloc (bxc x) = H1 at hx hbp hbl ⊢; have hnx := hx.next; have hlv := Vec.lenV (Vec.ext g1 hx); rw [n1] at hlv; have d1 : (((pl.length : Nat) : Int) == ((n : Nat) : Int)) = false := by simp; omega
   unfold bxc at hbp; refine A9 ?_; simp only [sS, Nat.zero_add, B7 hbp, hlv, d1]; refine C4.false_ (A2 ?_); simp +decide only [sQ]; refine A0 ?_; simp only [sS, E9 hbp]; refine (C3v lim (.agg #[.int .i64 x.k, x.s, x.t]) x.k x.lo x.hi pl.length H1 (by omega) ⟨x.s, x.t, rfl, Vec.sl (Vec.ext g1 hx), Vec.sl (Vec.ext g2 hx)⟩ (by omega) (by omega) (by omega) (by omega) (fun y hy => by have := q6 y hy; omega) (fun y hy => by have := q7 y hy; omega) (by rw [hh0]; exact gd1) (by rw [hh1]; exact gd2)).mono ?_; rw [hh0, hh1]; rintro _ H2 ⟨⟨hw, x0, x1, hb, rfl, dx0, dx1, hG⟩, hx2⟩; have hn2 := hx2.next; simp only [sS]; refine A9 ?_; simp only [sS]; refine C4.false_ (A2 ?_); simp +decide only [sQ]; obtain ⟨b0, o0, u0, w0⟩ := hG.slb.at (i := 0) (by simp); obtain ⟨b1, o1, u1, w1⟩ := hG.slb.at (i := 1) (by simp); have u0' : F1 3 hw (.int .i64 0) = some (.pointer (some ⟨b0, o0, none⟩)) := u0; have u1' : F1 3 hw (.int .i64 1) = some (.pointer (some ⟨b1, o1, none⟩)) := u1; simp only [List.getElem_cons_zero, List.getElem_cons_succ] at w0 w1; have bc : ∀ (y : BX), y ∈ [x0, x1] → C8s H2 (fun c => H.next ≤ c ∧ c < H2.next) (bxv y) y := by
    intro y hy; obtain ⟨c, d, k1, k2, k3, k4, k5, k6, _⟩ := hG.el y hy; exact ⟨rfl, c, d, k1, k2, ⟨by omega, k4⟩, k4, ⟨by omega, k6⟩, k6⟩
   have hpl1 : ∀ (p q : Int), (ph ++ [q]).length = (pl ++ [p]).length := fun p q => by simp [hpl]
   have hps : ∀ p : Int, (((pl ++ [p]).length : Nat) : Int) = ((pl.length + 1 : Nat) : Int) := fun p => by simp
   refine A0 ?_; simp only [sS, u0', w0 H2 (Ext.refl _), D6 (i := pl.length) (by omega)]; rw [← hps (2 ^ (r + 1) * a + (2 * i : Nat) * (h - a))]; refine (A9h n h1 h3 f lim _ x0 _ _ av hs is K r _ H2 (by omega) (bc x0 (by simp)) dx0 (hpl1 _ _) (by omega) (by omega) (by omega) (by simp; omega) hK (rng1 (2 * i) (by omega)) a6 hi').mono ?_; rintro _ H3 ⟨⟨w1v, es1, b1v, rfl, de1, hG1⟩, hx3⟩; have hn3 := hx3.next; simp only [sS]; refine A0 ?_; simp only [sS, u1', w1 H3 hx3, D6 (i := pl.length) (by omega)]; rw [← hps (2 ^ (r + 1) * a + (2 * i + 1 : Nat) * (h - a))]; refine (A9h n h1 h3 f lim _ x1 _ _ av hs is K r _ H3 (by omega) ((bc x1 (by simp)).ext hx3) dx1 (hpl1 _ _) (by omega) (by omega) (by omega) (by simp; omega) hK (rng1 (2 * i + 1) (by omega)) a6 hi').mono ?_; rintro _ H4 ⟨⟨w2v, es2, b2v, rfl, de2, hG2⟩, hx4⟩; have hn4 := hx4.next; have len : ∀ (p q : List Int) (es : List BX), es.map dat = A1f (K + r + 1) r p q av hs is → es.length = (A0b is).length := fun p q es he => by
    have := congrArg List.length he; simpa [A1f] using this
   have hbit : ∀ js : List Nat, (A0b js).length = 2 ^ js.length := by
    intro js
    induction js with
    | nil => rfl
    | cons j js ih => simp [A0b, ih, Nat.pow_succ]; omega
   have hle1 := len _ _ _ de1; have hle2 := len _ _ _ de2; rw [hbit] at hle1 hle2; have hp8 : 2 ^ is.length ≤ 2 ^ 3 := Nat.pow_le_pow_right (by decide) (by omega); have hG1' : F3 H3 H2.next (fun c => P c ∧ c < H.next ∨ H.next ≤ c) b1v w1v es1 := hG1.lower hG1.low (fun c _ hc => by rcases hc with ⟨⟨h, _⟩, _⟩ | h <;> right <;> omega); obtain ⟨v5, H5, b5, e5, hG5, hx5⟩ := hG1'.appendL (lim := lim) (w := w2v) (es2 := es2) (H0 := H2) (by omega) hx3 (Nat.le_refl _) hn3 hx4 hG2.slb.1 (fun y hy => by
    obtain ⟨c, d, k1, k2, k3, k4, k5, k6, k7, k8⟩ := hG2.el y hy; have hlow := hG1.low; refine ⟨c, d, k1, k2, ?_, k4, ?_, k6, ?_⟩
    ·rcases k3 with ⟨⟨h, _⟩, _⟩ | h <;> right <;> omega
    ·rcases k5 with ⟨⟨h, _⟩, _⟩ | h <;> right <;> omega
    ·rcases hG1.st with hz | hz
     ·exact .inl hz
     ·right; refine ⟨?_, ?_⟩
      ·rcases k3 with ⟨⟨_, h⟩, _⟩ | h <;> omega
      ·rcases k5 with ⟨⟨_, h⟩, _⟩ | h <;> omega) (by omega)
   simp only [sS]; refine A0 ?_; simp only [sS, e5]; refine A3 ?_; simp +decide only [sQ]; refine ⟨⟨v5, es1 ++ es2, b5, rfl, ?_, hG5.lower (by have := hG5.low; omega) (fun c _ hc => hc)⟩, (hx.trans hx2).trans hx5⟩; rw [List.map_append, de1, de2, ← C4d]
end Go.Proofs.YtmdeppkfboaepaaGreat
namespace Go.Proofs.YtmdeppkfboaepaaGreat
open Go.Ab Ints
def A31 (k1 k2 : Nat) : List Int → List Int → Bool
 | x :: xs, y :: ys => if J5 (x * 2 ^ k2 - y * 2 ^ k1) = 0 then A31 k1 k2 xs ys else decide (J5 (x * 2 ^ k2 - y * 2 ^ k1) < 0)
 | _, _ => false
theorem D0g {x y N1 N2 : Int} {k1 k2 K1 K2 : Nat} (h1 : Low x k1 N1 K1) (h2 : Low y k2 N2 K2) : J5 (N1 * 2 ^ K2 - N2 * 2 ^ K1) = J5 (x * 2 ^ k2 - y * 2 ^ k1) := by
 obtain ⟨a1, _⟩ := h1; obtain ⟨a2, _⟩ := h2; have hc : (0 : Int) < 2 ^ k1 * 2 ^ k2 := Int.mul_pos (by have := I7 k1; omega) (by have := I7 k2; omega); have hd : (0 : Int) < 2 ^ K1 * 2 ^ K2 := Int.mul_pos (by have := I7 K1; omega) (by have := I7 K2; omega); rw [← X2 hc, ← X2 hd (x * 2 ^ k2 - y * 2 ^ k1)]
 congr 1
 have f1 : (2 : Int) ^ k1 * 2 ^ k2 * (N1 * 2 ^ K2) = 2 ^ K1 * 2 ^ K2 * (x * 2 ^ k2) := by
  have e1 : (2 : Int) ^ k1 * 2 ^ k2 * (N1 * 2 ^ K2) = N1 * 2 ^ k1 * (2 ^ k2 * 2 ^ K2) := by simp only [Int.mul_assoc, Int.mul_left_comm]
  rw [e1, ← a1]; simp only [Int.mul_assoc, Int.mul_comm, Int.mul_left_comm]
 have f2 : (2 : Int) ^ k1 * 2 ^ k2 * (N2 * 2 ^ K1) = 2 ^ K1 * 2 ^ K2 * (y * 2 ^ k1) := by
  have e1 : (2 : Int) ^ k1 * 2 ^ k2 * (N2 * 2 ^ K1) = N2 * 2 ^ k2 * (2 ^ k1 * 2 ^ K1) := by simp only [Int.mul_assoc, Int.mul_left_comm]
  rw [e1, ← a2]; simp only [Int.mul_assoc, Int.mul_comm, Int.mul_left_comm]
 rw [Int.mul_sub, Int.mul_sub, f1, f2]
theorem C2h (lim : Nat) (v w : Value) (k1 k2 : Nat) (l1 h1 l2 h2 : List Int) (H : A1) (hl : lim ≤ H.next) (hv : V6 H v k1 l1 h1) (hw : V6 H w k2 l2 h2) (hlen : l2.length = l1.length) (hn : l1.length ≤ 900) (hk1 : k1 ≤ 24) (hk2 : k2 ≤ 24) (s1 : Sm l1) (s2 : Sm l2) :
 A5 Tryz.prog lim B4k [v, w] H fun v H' => v = .bool (A31 k1 k2 l1 l2) ∧ Ext H H' := by
 obtain ⟨a1, b1, rfl, ha1, hb1⟩ := hv; obtain ⟨a2, b2, rfl, ha2, hb2⟩ := hw; refine B20.go rfl ?_; unfold A45; refine A0 ?_; simp only [sS, M5, C2]; have hx0 : Ext H ((H.alloc [.int .i64 (k1 : Int), a1, b1]).alloc [.int .i64 (k2 : Int), a2, b2]) := (Ext.alloc _ _).trans (Ext.alloc _ _); have hp1 : ((H.alloc [.int .i64 (k1 : Int), a1, b1]).alloc [.int .i64 (k2 : Int), a2, b2]).blk H.next = some [.int .i64 (k1 : Int), a1, b1] := by
  rw [A0p _ _ (Nat.lt_succ_self _)]; exact A6 _ _
 have hp2 : ((H.alloc [.int .i64 (k1 : Int), a1, b1]).alloc [.int .i64 (k2 : Int), a2, b2]).blk (H.alloc [.int .i64 (k1 : Int), a1, b1]).next = some [.int .i64 (k2 : Int), a2, b2] := A6 _ _; have hl1 : H.next < ((H.alloc [.int .i64 (k1 : Int), a1, b1]).alloc [.int .i64 (k2 : Int), a2, b2]).next := by simp only [I5]; omega
 have hl2 : (H.alloc [.int .i64 (k1 : Int), a1, b1]).next < ((H.alloc [.int .i64 (k1 : Int), a1, b1]).alloc [.int .i64 (k2 : Int), a2, b2]).next := Nat.lt_succ_self _; generalize (H.alloc [.int .i64 (k1 : Int), a1, b1]).alloc [.int .i64 (k2 : Int), a2, b2] = H1 at hx0 hp1 hp2 hl1 hl2 ⊢; generalize (H.alloc [.int .i64 (k1 : Int), a1, b1]).next = r at hp2 hl2 ⊢; have hnx := hx0.next; have ha1' := SlI.ext ha1 hx0; have ha2' := SlI.ext ha2 hx0; generalize hq : H.next = q at *
 refine C7 (A0 ?_); simp only [sS, Nat.zero_add, B7 hp1, ha1'.lenV]; refine A7 ?_; refine B9 (fun j e' H' => ∃ (i : Nat) (x5 x6 x7 : Value), i + j = l1.length ∧ A31 k1 k2 l1 l2 = A31 k1 k2 (l1.drop i) (l2.drop i) ∧ Ext H1 H' ∧ e' = [.agg #[.int .i64 (k1 : Int), a1, b1], .agg #[.int .i64 (k2 : Int), a2, b2], .pointer (some ⟨q, 0, none⟩), .pointer (some ⟨r, 0, none⟩), .bool false, x5, x6, x7, a1, .int .i64 l1.length, .int .i64 i]) l1.length ⟨0, _, _, _, by omega, rfl, Ext.refl _, rfl⟩ ?_; rintro j e' H2 ⟨i, x5, x6, x7, hij, hall, hx2, rfl⟩; have hn2 := hx2.next; refine A9 ?_; simp only [sS]; refine C4.split (fun hlt => ?_) (fun hlt => ?_)
 ·have hlt' : i < l1.length := by simpa using hlt
  have hlt2 : i < l2.length := by omega
  obtain ⟨c1, o1, u1, u2⟩ := X7 (SlI.ext ha1' hx2) hlt'; obtain ⟨c2, o2, y1, y2⟩ := X7 (SlI.ext ha2' hx2) hlt2; have g1 : l1.getD i 0 = l1[i] := by simp [hlt']
  have g2 : l2.getD i 0 = l2[i] := by simp [hlt2]
  rw [g1] at u2; rw [g2] at y2; have m1 := s1.get hlt'; have m2 := s2.get hlt2; rw [List.drop_eq_getElem_cons hlt', List.drop_eq_getElem_cons hlt2, A31] at hall; have hp1' : H2.blk q = some [.int .i64 (k1 : Int), a1, b1] := by rw [hx2.blk _ hl1]; exact hp1
  have hp2' : H2.blk r = some [.int .i64 (k2 : Int), a2, b2] := by rw [hx2.blk _ hl2]; exact hp2
  refine A2 ?_; simp +decide only [sQ]; refine A8 ?_; refine A0 ?_; simp only [sS, u1, u2]; refine A0 ?_; simp only [sS, Nat.zero_add, B7 hp1', B7 hp2', y1, y2]; refine (B0r _ l1[i] k1 H2 (Nat.le_refl _) hk1 (by omega)).use ?_; rintro _ H3 ⟨⟨N1, K1, rfl, hL1⟩, hx3⟩ _; have hn3 := hx3.next; simp only [sS]; refine (B0r lim l2[i] k2 H3 (by omega) hk2 (by omega)).mono ?_; rintro _ H4 ⟨⟨N2, K2, rfl, hL2⟩, hx4⟩; have hn4 := hx4.next; simp only [sS]; refine (B5p lim N1 N2 K1 K2 H4 (by omega) (by have := hL1.2.1; omega) (by have := hL2.2.1; omega) (by have := hL1.2.2; omega) (by have := hL2.2.2; omega)).mono ?_; rw [D0g hL1 hL2]; rintro _ H5 ⟨rfl, hx5⟩; have hx25 := (hx3.trans hx4).trans hx5; simp only [sS]; generalize J5 (l1[i] * 2 ^ k2 - l2[i] * 2 ^ k1) = sg0 at hall ⊢; refine E1 ?_; simp only [sS]; refine C4.split (fun h => ?_) (fun h => ?_)
  ·have h' : sg0 ≠ 0 := by simpa using h
   rw [if_neg h'] at hall; refine A0 ?_; simp only [sS]; refine A3 ?_; simp +decide only [sQ]; rw [hall]; exact ⟨rfl, (hx0.trans hx2).trans hx25⟩
  ·have h' : sg0 = 0 := by simpa using h
   rw [if_pos h'] at hall; refine A2 ?_; simp +decide only [sQ]; refine A4 ?_; simp only [sS, D6 (i := i) (by omega)]; simp +decide only [sQ]; exact C6.mk (j - 1) (by omega) ⟨i + 1, _, _, _, by omega, hall, hx2.trans hx25, rfl⟩
 ·have hge : i = l1.length := by simp at hlt; omega
  subst hge; refine B8 ?_; simp +decide only [sQ, reduceIte]; refine A0 ?_; simp only [sS]; refine A3 ?_; simp +decide only [sQ]; rw [List.drop_of_length_le (by omega), List.drop_of_length_le (by omega)] at hall; rw [hall]; exact ⟨rfl, hx0.trans hx2⟩
theorem C64 (k1 k2 : Nat) : ∀ l1 l2 : List Int, A31 (k1 + 1) k2 (dbl l1) l2 = A31 k1 k2 l1 l2
 | [], _ => rfl
 | x :: xs, [] => rfl
 | x :: xs, y :: ys => by
   rw [S5, A31, A31, C64 k1 k2 xs ys]; have e : 2 * x * 2 ^ k2 - y * 2 ^ (k1 + 1) = 2 * (x * 2 ^ k2 - y * 2 ^ k1) := by
    rw [Int.pow_succ, Int.mul_comm (2 ^ k1) 2, Int.mul_left_comm y 2, Int.mul_assoc, Int.mul_sub]
   rw [e, X2 (by decide)]
theorem C6b (k1 k2 : Nat) : ∀ l1 l2 : List Int, A31 k1 (k2 + 1) l1 (dbl l2) = A31 k1 k2 l1 l2
 | [], _ => rfl
 | x :: xs, [] => rfl
 | x :: xs, y :: ys => by
   rw [S5, A31, A31, C6b k1 k2 xs ys]; have e : x * 2 ^ (k2 + 1) - 2 * y * 2 ^ k1 = 2 * (x * 2 ^ k2 - y * 2 ^ k1) := by
    rw [Int.pow_succ, Int.mul_comm (2 ^ k2) 2, Int.mul_left_comm x 2, Int.mul_assoc 2 y, Int.mul_sub]
   rw [e, X2 (by decide)]
theorem C1t (k1 k2 : Nat) (l1 l2 : List Int) : ∀ i j : Nat, A31 (k1 + i) (k2 + j) (Z5 i l1) (Z5 j l2) = A31 k1 k2 l1 l2
 | 0, 0 => rfl
 | i + 1, j => by rw [Z5, ← Nat.add_assoc, C64, C1t k1 k2 l1 l2 i j]
 | 0, j + 1 => by
   show A31 (k1 + 0) ((k2 + j) + 1) (Z5 0 l1) (dbl (Z5 j l2)) = _; rw [C6b, C1t k1 k2 l1 l2 0 j]
theorem C6y {r T : Nat} {m : Int} : ∀ {av hs : List Int} {v w : List Nat}, L9 m av hs = true → hs.length = av.length → v.length = av.length → w.length = av.length → A31 T T (N7 r av hs v) (N7 r av hs w) = A1r v w
 | [], _, v, w, _, _, h2, h3 => by
   rw [List.length_eq_zero_iff.1 h2, List.length_eq_zero_iff.1 h3]; rfl
 | a :: av, [], _, _, _, h, _, _ => by simp at h
 | a :: av, h :: hs, [], _, _, _, h2, _ => by simp at h2
 | a :: av, h :: hs, i :: v, [], _, _, _, h3 => by simp at h3
 | a :: av, h :: hs, i :: v, j :: w, hr, h1, h2, h3 => by
   simp only [L9, Bool.and_eq_true, decide_eq_true_eq] at hr; obtain ⟨⟨⟨⟨a1, a2⟩, a3, a4⟩, a5⟩, a6⟩ := hr; rw [N7, N7, A31, A1r, C6y a6 (by simpa using h1) (by simpa using h2) (by simpa using h3)]; have hT : (0 : Int) < 2 ^ T := by have := I7 T; omega
   have e : (2 ^ r * a + i * (h - a)) * 2 ^ T - (2 ^ r * a + j * (h - a)) * 2 ^ T = 2 ^ T * ((h - a) * ((i : Int) - j)) := by
    rw [← Int.sub_mul, Int.mul_comm]
    congr 1
    have e5 : (h - a) * ((i : Int) - j) = i * (h - a) - j * (h - a) := by rw [Int.mul_sub, Int.mul_comm (h - a) i, Int.mul_comm (h - a) j]
    rw [e5]; generalize (i : Int) * (h - a) = E; generalize (j : Int) * (h - a) = F; generalize (2 : Int) ^ r * a = A; omega
   rw [e, X2 hT, X2 (show 0 < h - a by omega)]; by_cases hij : i = j
   ·subst hij; simp [J5]
   ·rw [if_neg hij]; rcases Nat.lt_or_gt_of_ne hij with hlt | hlt
    ·rw [C7s (by omega), if_neg (by decide)]; simp [hlt]
    ·rw [C8g (by omega), if_neg (by decide)]; simp; omega
def L4 (K t : Nat) (L U : List Int) (v : List Nat) : Nat × List Int × List Int := D2 (K + t) (N7 t L U v) (K7 t L U v)
theorem D1x {K t : Nat} {m : Int} {L U : List Int} {v w : List Nat} (hr : L9 m L U = true) (hl : U.length = L.length) (h2 : v.length = L.length) (h3 : w.length = L.length) : A31 (L4 K t L U v).1 (L4 K t L U w).1 (L4 K t L U v).2.1 (L4 K t L U w).2.1 = A1r v w := by
 obtain ⟨i, e1, e2, _⟩ := V0 (K + t) (N7 t L U v) (K7 t L U v) (by rw [M2 _ _ _ _ hl h2, L0 _ _ _ _ hl h2]); obtain ⟨j, f1, f2, _⟩ := V0 (K + t) (N7 t L U w) (K7 t L U w) (by rw [M2 _ _ _ _ hl h3, L0 _ _ _ _ hl h3]); have := C1t (L4 K t L U v).1 (L4 K t L U w).1 (L4 K t L U v).2.1 (L4 K t L U w).2.1 i j; unfold L4 at this ⊢; rw [← e1, ← f1, ← e2, ← f2] at this; rw [← this]; exact C6y hr hl h2 h3
end Go.Proofs.YtmdeppkfboaepaaGreat
namespace Go.Proofs.YtmdeppkfboaepaaGreat
open Go.Ab Ints
theorem C8j : ∀ n : Fin 4, ∀ r : Fin 3, (B1k n.val r.val).length ≤ 64 ∧ ∀ v ∈ B1k n.val r.val, v.length = n.val ∧ ∀ i ∈ v, i + 1 ≤ 2 ^ r.val := by decide +kernel
theorem A3u : ∀ n : Fin 4, ∀ t : Fin 3, (n9 (2 ^ t.val) n.val).length ≤ 64 ∧ ∀ v ∈ n9 (2 ^ t.val) n.val, v.length = n.val ∧ ∀ i ∈ v, i + 1 ≤ 2 ^ t.val := by decide +kernel
theorem C2b : ∀ (L U : List Int), U.length = L.length → N7 0 L U (List.replicate L.length 0) = L ∧ K7 0 L U (List.replicate L.length 0) = U
 | [], U, h => by
   have e : U = [] := List.length_eq_zero_iff.1 (by simpa using h); subst e; exact ⟨rfl, rfl⟩
 | a :: L, [], h => by simp at h
 | a :: L, b :: U, h => by
   obtain ⟨e1, e2⟩ := C2b L U (by simpa using h); rw [List.length_cons, List.replicate_succ, N7, K7, e1, e2]
   constructor
   ·congr 1
    simp
   ·congr 1
    simp; omega
theorem C5p {k : Nat} {l h : List Int} (ho : k = 0 ∨ V4 l h = true) : D2 k l h = (k, l, h) := by
 cases k with
 | zero => rfl
 | succ k => rw [D2, if_pos (ho.resolve_left (by omega))]
theorem B0n {K t n : Nat} {L U : List Int} {v : List Nat} (hL : L.length = n) (hU : U.length = n) (h1 : 1 ≤ n) (h3 : n ≤ 3) (hK : K + t ≤ 8) (hr : L9 (8 * 2 ^ K) L U = true) (hv : v.length = n) (hi : ∀ i ∈ v, i + 1 ≤ 2 ^ t) : G0 (L4 K t L U v).1 (L4 K t L U v).2.1 (L4 K t L U v).2.2 = true ∧ (L4 K t L U v).2.1.length = n := by
 have e1 := M2 t L U v (by omega) (by omega); have e2 := L0 t L U v (by omega) (by omega); refine ⟨C0e (by omega) (by omega) (by omega) hK ?_, ?_⟩
 ·rw [C6x]; exact B42 hr hi
 ·have := (V1 (K + t) (N7 t L U v) (K7 t L U v) (by omega)).1; unfold L4; omega
theorem C96 {H : A1} {v : Value} {es : List BX} (h : Sl H v es.length 3 (bxs es)) {k : Nat} (hk : k ≤ es.length) : ∃ w, O5 3 v none (some (.int .i64 k)) none = some w ∧ Sl H w (es.take k).length 3 (bxs (es.take k)) := by
 obtain ⟨w, h1, h2⟩ := h.slc (lo := none) (hi := some (.int .i64 k)) (i := 0) (j := k) (by omega) hk (.inl ⟨rfl, rfl⟩) (.inr ⟨_, rfl⟩); rw [Nat.zero_mul, List.drop_zero, Nat.sub_zero, C85] at h2; exact ⟨w, h1, by rw [List.length_take, Nat.min_eq_left hk]; exact h2⟩
theorem C9g {H : A1} {v : Value} {es : List BX} (h : Sl H v es.length 3 (bxs es)) {k : Nat} (hk : k ≤ es.length) : ∃ w, O5 3 v (some (.int .i64 k)) none none = some w ∧ Sl H w (es.drop k).length 3 (bxs (es.drop k)) := by
 obtain ⟨w, h1, h2⟩ := h.slc (lo := some (.int .i64 k)) (hi := none) (i := k) (j := es.length) hk (Nat.le_refl _) (.inr ⟨_, rfl⟩) (.inl ⟨rfl, rfl⟩); rw [C8p, List.take_of_length_le (by rw [B59, List.length_drop]; exact Nat.le_refl _)] at h2; exact ⟨w, h1, by rw [List.length_drop]; exact h2⟩
theorem C1z {lim lo : Nat} {P : Nat → Prop} {Hs G Hb : A1} {b1 c d : Nat} {acc lit w2 : Value} {es : List BX} {x : BX} {k : Nat} (hlim : lim ≤ lo) (hlo : Hs.next ≤ lo) (hloG : lo ≤ G.next) (hxs : Ext Hs G) (hacc : F3 Hb lo P b1 acc (es.take k)) (hb1 : G.next ≤ b1) (hlit : Sl Hb lit 1 3 (bxs [x])) (hx : Ext G Hb)
 (hc : C0 G c x.s x.lo) (hd : C0 G d x.t x.hi) (c1 : P c) (c2 : c < G.next) (d1 : P d) (d2 : d < G.next)
 (hw2 : Sl G w2 (es.drop k).length 3 (bxs (es.drop k))) (hel : ∀ y ∈ es, ∃ c d, C0 G c y.s y.lo ∧ C0 G d y.t y.hi ∧ P c ∧ c < G.next ∧ P d ∧ d < G.next) (hn : es.length ≤ 1000) :
 ∃ acc2 H2 acc3 H3 b3, E4 lim Hb 3 56 acc lit = some (acc2, H2) ∧ E4 lim H2 3 56 acc2 w2 = some (acc3, H3) ∧ F3 H3 lo P b3 acc3 (es.take k ++ x :: es.drop k) ∧ Ext G H3 := by
 have hnb := hx.next; obtain ⟨acc2, H2, b2, e1, g1, x1, k1, n1, m1⟩ := hacc.appendX (lim := lim) (H0 := Hs) hlim (hxs.trans hx) hlo (by omega) (Ext.refl Hb) (w := lit) (es2 := [x]) hlit (fun y hy => by
  rw [List.mem_singleton] at hy; subst hy; exact ⟨c, d, Vec.ext hc hx, Vec.ext hd hx, c1, by omega, d1, by omega, .inr ⟨by omega, by omega⟩⟩) (by simp; omega)
 have hxG2 : Ext G H2 := ⟨by omega, fun b hb => by rw [k1 b (by omega) (.inr (by omega)), hx.blk b hb]⟩; obtain ⟨acc3, H3, b3, e2, g2, x2, k2, n2, m2⟩ := g1.appendX (lim := lim) (H0 := Hs) hlim x1 hlo (by omega) (Ext.refl H2) (w := w2) (es2 := es.drop k) (hw2.keep (T8.of_ext hxG2 (Nat.le_refl _)) (Nat.le_refl _)) (fun y hy => by
  obtain ⟨c, d, p1, p2, p3, p4, p5, p6⟩ := hel y (List.mem_of_mem_drop hy); exact ⟨c, d, Vec.ext p1 hxG2, Vec.ext p2 hxG2, p3, by omega, p5, by omega, .inr ⟨by omega, by omega⟩⟩) (by simp; omega)
 refine ⟨acc2, H2, acc3, H3, b3, e1, e2, ?_, ⟨by omega, fun b hb => by rw [k2 b (by omega) (.inr (by omega)), hxG2.blk b hb]⟩⟩; simpa using g2
theorem D1e {lim lo : Nat} {P : Nat → Prop} {Hs G : A1} {c d : Nat} {w1 w2 : Value} {es : List BX} {x : BX} {k : Nat} (hlim : lim ≤ lo) (hlo : Hs.next ≤ lo) (hloG : lo ≤ G.next) (hxs : Ext Hs G)
 (hc : C0 G c x.s x.lo) (hd : C0 G d x.t x.hi) (c1 : P c) (c2 : c < G.next) (d1 : P d) (d2 : d < G.next)
 (hw1 : Sl G w1 (es.take k).length 3 (bxs (es.take k))) (hw2 : Sl G w2 (es.drop k).length 3 (bxs (es.drop k))) (hel : ∀ y ∈ es, ∃ c d, C0 G c y.s y.lo ∧ C0 G d y.t y.hi ∧ P c ∧ c < G.next ∧ P d ∧ d < G.next) (hn : es.length ≤ 1000) :
 (∃ a1 Hb a2 H2 a3 H3 b3, E4 lim (G.alloc []) 3 56 (.slice (some ⟨G.next, 0, some 0⟩) 0 0) w1 = some (a1, Hb) ∧ E4 lim (Hb.alloc (bxc x)) 3 56 a1 (.slice (some ⟨Hb.next, 0, some 0⟩) 1 1) = some (a2, H2) ∧ E4 lim H2 3 56 a2 w2 = some (a3, H3) ∧ F3 H3 lo P b3 a3 (es.take k ++ x :: es.drop k) ∧ Ext G H3 ∧ Ext G Hb) ∧
 (∃ a1 Hb a2 H2 a3 H3 b3, E4 lim ((G.alloc []).alloc (bxc x)) 3 56 (.slice (some ⟨G.next, 0, some 0⟩) 0 0) w1 = some (a1, Hb) ∧ E4 lim Hb 3 56 a1 (.slice (some ⟨(G.alloc []).next, 0, some 0⟩) 1 1) = some (a2, H2) ∧ E4 lim H2 3 56 a2 w2 = some (a3, H3) ∧ F3 H3 lo P b3 a3 (es.take k ++ x :: es.drop k) ∧ Ext G H3) ∧
 (∃ a1 Hb a2 H2 a3 H3 b3, E4 lim ((G.alloc (bxc x)).alloc []) 3 56 (.slice (some ⟨(G.alloc (bxc x)).next, 0, some 0⟩) 0 0) w1 = some (a1, Hb) ∧ E4 lim Hb 3 56 a1 (.slice (some ⟨G.next, 0, some 0⟩) 1 1) = some (a2, H2) ∧ E4 lim H2 3 56 a2 w2 = some (a3, H3) ∧ F3 H3 lo P b3 a3 (es.take k ++ x :: es.drop k) ∧ Ext G H3) := by
 have first : ∀ (Ga Hb : A1) (β : Nat), Ext G Ga → Ext Ga Hb → Vec Ga β (.slice (some ⟨β, 0, some 0⟩) 0 0) 0 3 (bxs []) → G.next ≤ β → β < Ga.next → ∃ a1 Hc b1, E4 lim Hb 3 56 (.slice (some ⟨β, 0, some 0⟩) 0 0) w1 = some (a1, Hc) ∧ F3 Hc lo P b1 a1 (es.take k) ∧ Ext G Hc ∧ G.next ≤ b1 ∧ Hb.next ≤ Hc.next ∧ ∀ z, z < Hb.next → z ≠ β → Hc.blk z = Hb.blk z := by
  intro Ga Hb β hxa hxb hv hβ hβ2; have hna := hxa.next; have hnb := hxb.next; have g0 : F3 Ga lo P β (.slice (some ⟨β, 0, some 0⟩) 0 0) [] := ⟨hv, by omega, .inr hβ2, by simp⟩; have hxG := hxa.trans hxb; obtain ⟨a1, Hc, b1, e1, g1, x1, k1, n1, m1⟩ := g0.appendX (lim := lim) (H0 := Hs) hlim (hxs.trans hxa) hlo (by omega) hxb (w := w1) (es2 := es.take k) (hw1.keep (T8.of_ext hxG (Nat.le_refl _)) (Nat.le_refl _)) (fun y hy => by
   obtain ⟨c, d, p1, p2, p3, p4, p5, p6⟩ := hel y (List.mem_of_mem_take hy); exact ⟨c, d, Vec.ext p1 hxG, Vec.ext p2 hxG, p3, by omega, p5, by omega, .inr ⟨by omega, by omega⟩⟩) (by simp; omega)
  rw [List.nil_append] at g1; exact ⟨a1, Hc, b1, e1, g1, ⟨by omega, fun b hb => by rw [k1 b (by omega) (.inr (by omega)), hxG.blk b hb]⟩, by omega, n1, fun z hz hzb => k1 z hz (.inr hzb)⟩
 have hxa := Ext.alloc G ([] : List Value); have hxl := Ext.alloc G (bxc x); have lit : ∀ Hq : A1, Vec (Hq.alloc (bxc x)) Hq.next (.slice (some ⟨Hq.next, 0, some 0⟩) 1 1) 1 3 (bxs [x]) := fun Hq => by
  rw [B43]; exact Vec.lit rfl
 have nil0 : ∀ Hq : A1, Vec (Hq.alloc []) Hq.next (.slice (some ⟨Hq.next, 0, some 0⟩) 0 0) 0 3 (bxs []) := fun Hq => Vec.lit rfl
 refine ⟨?_, ?_, ?_⟩
 ·obtain ⟨a1, Hb, b1, e1, g1, x1, m1, _, _⟩ := first (G.alloc []) (G.alloc []) G.next hxa (Ext.refl _) (nil0 G) (Nat.le_refl _) (Nat.lt_succ_self _)
  have hy := Ext.alloc Hb (bxc x); obtain ⟨a2, H2, a3, H3, b3, f1, f2, f3, f4⟩ := C1z (lim := lim) (lit := .slice (some ⟨Hb.next, 0, some 0⟩) 1 1) hlim hlo hloG hxs (g1.ext hy) m1 (Vec.sl (lit Hb)) (x1.trans hy) hc hd c1 c2 d1 d2 hw2 hel hn; exact ⟨a1, Hb, a2, H2, a3, H3, b3, e1, f1, f2, f3, f4, x1⟩
 ·have hy := Ext.alloc (G.alloc []) (bxc x); obtain ⟨a1, Hb, b1, e1, g1, x1, m1, n1, k1⟩ := first (G.alloc []) ((G.alloc []).alloc (bxc x)) G.next hxa hy (nil0 G) (Nat.le_refl _) (Nat.lt_succ_self _)
  obtain ⟨a2, H2, a3, H3, b3, f1, f2, f3, f4⟩ := C1z (lim := lim) (lit := .slice (some ⟨(G.alloc []).next, 0, some 0⟩) 1 1) hlim hlo hloG hxs g1 m1 (Vec.sl (Vec.keep (lit (G.alloc [])) n1 (fun hlt => k1 _ hlt (by simp only [I5]; omega)))) x1 hc hd c1 c2 d1 d2 hw2 hel hn; exact ⟨a1, Hb, a2, H2, a3, H3, b3, e1, f1, f2, f3, f4⟩
 ·have hy := Ext.alloc (G.alloc (bxc x)) ([] : List Value); obtain ⟨a1, Hb, b1, e1, g1, x1, m1, n1, k1⟩ := first ((G.alloc (bxc x)).alloc []) ((G.alloc (bxc x)).alloc []) (G.alloc (bxc x)).next (hxl.trans hy) (Ext.refl _) (nil0 _) (by simp only [I5]; omega) (Nat.lt_succ_self _)
  obtain ⟨a2, H2, a3, H3, b3, f1, f2, f3, f4⟩ := C1z (lim := lim) (lit := .slice (some ⟨G.next, 0, some 0⟩) 1 1) hlim hlo hloG hxs g1 m1 (Vec.sl (Vec.keep (Vec.ext (lit G) hy) n1 (fun hlt => k1 _ hlt (by simp only [I5]; omega)))) x1 hc hd c1 c2 d1 d2 hw2 hel hn; exact ⟨a1, Hb, a2, H2, a3, H3, b3, e1, f1, f2, f3, f4⟩
end Go.Proofs.YtmdeppkfboaepaaGreat
