/- Parts of the proof of a statement of this seat: contracts of functions that the law calls, or the law's own row; no condition. -/
import Derived.Test.YtmdeppkfboaepaaGreatM8
set_option maxHeartbeats 8000000
set_option linter.unusedSimpArgs false
set_option linter.unusedVariables false
namespace Go.Proofs.YtmdeppkfboaepaaGreat
open Go.Ab Ints
theorem A3s {α β : Type} {f : α → β} {l : List α} {m : List β} (h : l.map f = m) {i : Nat} (hi : i < l.length) (hm : i < m.length) : f l[i] = m[i] := by
 subst h; simp
theorem B64 {α : Type} (lt : α → α → Bool) (x : α) (out : List α) {k : Nat} (hk : k < out.length) : A47 lt x out (k + 1) = if lt x out[k] then A47 lt x out k else k + 1 := by
 rw [A47, List.getElem?_eq_getElem hk]
theorem D0o {α : Type} (lt : α → α → Bool) (x : α) (out : List α) : ∀ k, k ≤ out.length → A47 lt x out k ≤ out.length
 | 0, _ => Nat.zero_le _
 | k + 1, h => by
   rw [B64 lt x out (by omega)]; split
   ·exact D0o lt x out k (by omega)
   ·exact h
theorem C77 (lim : Nat) (v : Value) (K t n : Nat) (L U : List Int) (H : A1) (hl : lim ≤ H.next) (hv : V6 H v K L U) (hg : G0 K L U = true) (hK : K ≤ 4) (ht : t ≤ 2) (hL : L.length = n) :
 A5 Tryz.prog lim A57 [v, .int .i64 t] H fun v H' => (∃ w es b, v = .tuple #[w, .bool true] ∧ es.map dat = (n9 (2 ^ t) n).map (L4 K t L U) ∧ F3 H' H.next (H.next ≤ ·) b w es) ∧ Ext H H' := by
 obtain ⟨q1, q2, q3, q4, q5, q6, q7⟩ := F7 hg; have hU : U.length = n := by omega
 have hrg : L9 (8 * 2 ^ K) L U = true ∧ (K = 0 ∨ V4 L U = true) := by
  simp only [G0, Bool.and_eq_true, Bool.or_eq_true, beq_iff_eq] at hg; refine ⟨by simpa using hg.1.2, ?_⟩; rcases hg.2 with h | h
  ·left; omega
  ·exact .inr h
 obtain ⟨hr, hodd⟩ := hrg; obtain ⟨s, u, rfl, hs, hu⟩ := hv; refine A4e.go rfl ?_; unfold A1i; refine A0 ?_; simp only [sS, M5, C2]; have hx := Ext.alloc H [.int .i64 (K : Int), s, u]; have hbp : (H.alloc [.int .i64 (K : Int), s, u]).blk H.next = some [.int .i64 (K : Int), s, u] := A6 _ _; have hbl : H.next < (H.alloc [.int .i64 (K : Int), s, u]).next := Nat.lt_succ_self _; generalize H.alloc [.int .i64 (K : Int), s, u] = H1 at hx hbp hbl ⊢; have hn1 := hx.next; have hs1 := SlI.ext hs hx; have hu1 := SlI.ext hu hx; have i1 : (decide ((0 : Int) ≤ (t : Int)) && decide ((t : Int) ≤ 2)) = true := by simp; omega
 refine J1 false (Ext H1) ?_ (fun H2 hx2 hg => by cases hg) (fun H2 hx2 _ => ?_)
 ·simp only [sS, E9 hbp]; refine (Ints.e8 lim _ K L U H1 (by omega) ⟨s, u, rfl, hs1, hu1⟩ (by omega) (by omega)).mono ?_; rw [hg]; rintro _ H2 ⟨rfl, hx2⟩; simp only [sS]; refine (Ints.L6 _ _ _ _ _).eq ?_; rw [i1]; simp only [sS]; exact ⟨trivial, trivial, hx2⟩
 have hn2 := hx2.next; have hbp2 : H2.blk H.next = some [.int .i64 (K : Int), s, u] := by rw [hx2.blk _ hbl]; exact hbp
 refine A2 ?_; simp +decide only [sQ]; refine A0 ?_; simp only [sS, Nat.zero_add, B7 hbp2]; refine (Ints.U0 _ s L H2 (Nat.le_refl _) (SlI.ext hs1 hx2) (by omega)).use ?_; rintro s0 H3 ⟨c0, c01, c02, hv0, hx3⟩ _; have hn3 := hx3.next; simp only [sS]; refine (Ints.U0 _ u U H3 (Nat.le_refl _) (SlI.ext hu1 (hx2.trans hx3)) (by omega)).use ?_; rintro u0 H4 ⟨d0, d01, d02, hw0, hx4⟩ _; have hn4 := hx4.next; have hf3 := C8q (a := .int .i64 0) (b := .slice none 0 0) (c := .slice none 0 0) (S7 .i64 (K : Int)) (Vec.cellsV hv0) (Vec.cellsV hw0); have hb1 := A08 H4 ⟨K, s0, u0, L, U⟩ (Vec.cellsV hv0) (Vec.cellsV hw0); simp only [bxv] at hb1; simp only [sS, hf3, hb1]; have hx5 := Ext.alloc H4 (bxc ⟨K, s0, u0, L, U⟩); have hn5 := hx5.next; have hx05 := ((hx.trans hx2).trans hx3).trans (hx4.trans hx5); have hG0 : F3 (H4.alloc (bxc ⟨K, s0, u0, L, U⟩)) H.next (H.next ≤ ·) H4.next (.slice (some ⟨H4.next, 0, some 0⟩) 1 1) [⟨K, s0, u0, L, U⟩] := by
  refine ⟨by rw [B43]; exact Vec.lit rfl, by omega, .inr (Nat.lt_succ_self _), fun y hy => ?_⟩; rw [List.mem_singleton] at hy; subst hy; exact ⟨c0, d0, Vec.ext hv0 (hx4.trans hx5), Vec.ext hw0 hx5, by omega, by omega, by omega, by omega, by omega, by omega⟩
 have hD0 : ([⟨K, s0, u0, L, U⟩] : List BX).map dat = (B1k n 0).map (L4 K 0 L U) := by
  have hz := C2b L U (by omega); rw [B1k, List.map_cons, List.map_nil, List.map_cons, List.map_nil]; unfold L4; rw [← hL, hz.1, hz.2, Nat.add_zero, C5p hodd]; rfl
 generalize H4.alloc (bxc ⟨K, s0, u0, L, U⟩) = H5 at hG0 hx5 hn5 hx05 ⊢; generalize (Value.slice (some ⟨H4.next, 0, some 0⟩) 1 1) = l0 at hG0 ⊢; generalize ([⟨K, s0, u0, L, U⟩] : List BX) = es0 at hG0 hD0; generalize H4.next = b0 at hG0; have fidx := fun r (hr : r ≤ 2) => C8j ⟨n, by omega⟩ ⟨r, by omega⟩
 simp only at fidx; refine N9 (fun e' H' => ∃ (es : List BX) (b : Nat) (list x6 x7 x8 x9 x13 x14 x15 : Value), F3 H' H.next (H.next ≤ ·) b list es ∧ es.map dat = (B1k n t).map (L4 K t L U) ∧ Ext H H' ∧ e' = [.agg #[.int .i64 (K : Int), s, u], .int .i64 0, .pointer (some ⟨H.next, 0, none⟩), .slice none 0 0, .bool false, list, x6, x7, x8, x9, undef, undef, undef, x13, x14, x15, undef, undef, undef]) ?_ ?_
 ·refine A8 ?_; refine B9 (fun j e' H' => ∃ (r : Nat) (es : List BX) (b : Nat) (list x6 x7 x8 x9 x13 x14 x15 : Value), r + j = t ∧ F3 H' H.next (H.next ≤ ·) b list es ∧ es.map dat = (B1k n r).map (L4 K r L U) ∧ Ext H H' ∧ e' = [.agg #[.int .i64 (K : Int), s, u], .int .i64 (j : Nat), .pointer (some ⟨H.next, 0, none⟩), .slice none 0 0, .bool false, list, x6, x7, x8, x9, undef, undef, undef, x13, x14, x15, undef, undef, undef]) t ⟨0, es0, b0, l0, _, _, _, _, _, _, _, by omega, hG0, hD0, hx05, rfl⟩ ?_; clear hG0 hD0 hx05; rintro j e' Hr ⟨r, es, b, list, x6, x7, x8, x9, x13, x14, x15, hrj, hG, hD, hxr, rfl⟩; have hnr := hxr.next; refine A9 ?_; simp only [sS]; refine C4.split (fun hlt => ?_) (fun hlt => ?_)
  ·have hj : 0 < j := by have := of_decide_eq_true hlt; omega
   obtain ⟨f1, f2⟩ := fidx r (by omega); have hnext : B1k n (r + 1) = (B1k n r).flatMap A0b := rfl; have hlen : es.length = (B1k n r).length := by have := congrArg List.length hD; simpa using this
   generalize B1k n r = I at *
   refine A2 ?_; simp +decide only [sQ]; refine A8 ?_; refine A0 ?_; simp only [sS]; refine C7 (A0 ?_); simp only [sS, hG.slb.lenV]; refine A7 ?_; refine B9 (fun j2 e' H' => ∃ (m : Nat) (es2 : List BX) (bn : Nat) (nx x7 x8 x9 : Value), m + j2 = es.length ∧ F3 H' Hr.next (H.next ≤ ·) bn nx es2 ∧ es2.map dat = ((I.take m).flatMap A0b).map (L4 K (r + 1) L U) ∧ Ext Hr H' ∧ e' = [.agg #[.int .i64 (K : Int), s, u], .int .i64 (j : Nat), .pointer (some ⟨H.next, 0, none⟩), .slice none 0 0, .bool false, list, nx, x7, x8, x9, undef, undef, undef, list, .int .i64 es.length, .int .i64 m, undef, undef, undef]) es.length ⟨0, [], Hr.next, .slice none 0 0, _, _, _, by omega, F3.nilL Hr Hr.next Hr.next _ (Nat.le_refl _), rfl, Ext.refl _, rfl⟩ ?_; rintro j2 e' H6 ⟨m, es2, bn, nx, x7, x8, x9, hmj, hG2, hD2, hx6, rfl⟩; have hn6 := hx6.next; refine A9 ?_; simp only [sS]; refine C4.split (fun hlt2 => ?_) (fun hlt2 => ?_)
   ·have hm : m < es.length := by have := of_decide_eq_true hlt2; omega
    have hmI : m < I.length := by omega
    obtain ⟨o1, o2, u1, u2⟩ := hG.slb.at hm; have hdx := A3s hD hm (by rw [List.length_map]; exact hmI); rw [List.getElem_map] at hdx; obtain ⟨fv, fi⟩ := f2 _ (List.getElem_mem hmI); have hIt := List.take_succ_eq_append_getElem hmI; generalize I[m] = vv at *
    obtain ⟨c, d, g1, g2, g3, g4, g5, g6, g7, g8⟩ := hG.el _ (List.getElem_mem hm); generalize es[m] = x at *
    refine A2 ?_; simp +decide only [sQ]; refine A8 ?_; refine A0 ?_; have hst : C8 lim (H6.alloc [.int .i64 0, .slice none 0 0, .slice none 0 0]) 3 (.pointer (some ⟨H6.next, 0, none⟩)) (bxv x) = some (undef, H6.alloc [.int .i64 (x.k : Int), x.s, x.t]) := E7 (by omega); simp only [sS, u1, u2 H6 hx6, hst]; have hx7 := Ext.alloc H6 [.int .i64 (x.k : Int), x.s, x.t]; have hb7 : (H6.alloc [.int .i64 (x.k : Int), x.s, x.t]).blk H6.next = some [.int .i64 (x.k : Int), x.s, x.t] := A6 _ _; generalize H6.alloc [.int .i64 (x.k : Int), x.s, x.t] = H7 at hx7 hb7 ⊢; have hn7 := hx7.next; have hx67 := hx6.trans hx7; have hlv1 := M2 r L U vv (by omega) (by omega); have hlv2 := L0 r L U vv (by omega) (by omega); have hcall : A5 Tryz.prog lim A52 [bxv x, .int .i64 0] H7 _ := A9h n (by omega) (by omega) n lim (bxv x) x [] [] L U vv K r (fun c => H.next ≤ c ∧ c < Hr.next) H7 (by omega) ⟨rfl, c, d, Vec.ext g1 hx67, Vec.ext g2 hx67, ⟨g3, g4⟩, by omega, ⟨g5, g6⟩, by omega⟩ (by
     rw [List.nil_append, List.nil_append, A6v]; exact hdx) rfl hL (by omega) (by omega) (by simp; omega) (by omega) rfl hr fi
    refine A0 ?_; simp only [sS, E9 hb7]; refine hcall.mono ?_; rintro _ H8 ⟨⟨w, es1, b1, rfl, de1, hG1⟩, hx8⟩; have hn8 := hx8.next; simp only [sS]; refine A9 ?_; simp only [sS]; refine C4.false_ (A2 ?_); simp +decide only [sQ]; have hlen1 : es1.length = (A0b vv).length := by have := congrArg List.length de1; simpa [A1f] using this
    have hbit : ∀ js : List Nat, (A0b js).length = 2 ^ js.length := by
     intro js
     induction js with
     | nil => rfl
     | cons j js ih => simp [A0b, ih, Nat.pow_succ]; omega
    have hlen2 : es2.length ≤ 64 * 8 := by
     have h1 := congrArg List.length hD2; rw [List.length_map, List.length_map] at h1; rw [h1, List.length_flatMap]; have h2 : ∀ l : List (List Nat), (∀ v ∈ l, v.length = n) → (l.map fun a => (A0b a).length).sum ≤ l.length * 8 := by
      intro l
      induction l with
      | nil => intro _; simp
      | cons a l ih =>
        intro hl; have h3 := ih (fun v hv => hl v (by simp [hv])); have h4 : (A0b a).length ≤ 8 := by
         rw [hbit, hl a (by simp)]; have : 2 ^ n ≤ 2 ^ 3 := Nat.pow_le_pow_right (by decide) (by omega); omega
        rw [List.map_cons, List.sum_cons, List.length_cons]; omega
     have h5 := h2 (I.take m) (fun v hv => (f2 v (List.mem_of_mem_take hv)).1); have h6 : (I.take m).length ≤ 64 := by rw [List.length_take]; omega
     omega
    have hlen3 : es1.length ≤ 8 := by
     rw [hlen1, hbit, fv]; have : 2 ^ n ≤ 2 ^ 3 := Nat.pow_le_pow_right (by decide) (by omega); omega
    obtain ⟨v9, H9, b9, e9, hG9, hx9⟩ := hG2.appendL (lim := lim) (w := w) (es2 := es1) (H0 := Hr) (by omega) hx6 (Nat.le_refl _) hn6 (hx7.trans hx8) hG1.slb.1 (fun y hy => by
     obtain ⟨c, d, k1, k2, k3, k4, k5, k6, k7, k8⟩ := hG1.el y hy; have hlow := hG2.low; refine ⟨c, d, k1, k2, ?_, k4, ?_, k6, ?_⟩
     ·rcases k3 with ⟨⟨h, _⟩, _⟩ | h <;> omega
     ·rcases k5 with ⟨⟨h, _⟩, _⟩ | h <;> omega
     ·rcases hG2.st with hz | hz
      ·exact .inl hz
      ·right; refine ⟨?_, ?_⟩
       ·rcases k3 with ⟨⟨_, h⟩, _⟩ | h <;> omega
       ·rcases k5 with ⟨⟨_, h⟩, _⟩ | h <;> omega) (by omega)
    refine A4 ?_; simp only [sS, e9]; simp +decide only [sQ]; refine A4 ?_; simp only [sS, D6 (i := m) (by omega)]; simp +decide only [sQ]; refine C6.mk (j2 - 1) (by omega) ⟨m + 1, es2 ++ es1, b9, v9, _, _, _, by omega, hG9, ?_, hx9, rfl⟩; rw [List.map_append, hD2, de1, hIt, List.flatMap_append, List.map_append]
    congr 1
    simp only [List.flatMap_cons, List.flatMap_nil, List.append_nil, A1f, List.nil_append]; rfl
   ·have hm : m = es.length := by have := of_decide_eq_false hlt2; omega
    subst hm; have hw1 : IntKind.i64.wrap ((j : Int) - 1) = ((j - 1 : Nat) : Int) := by rw [show (j : Int) - 1 = ((j - 1 : Nat) : Int) by omega]; exact J0 (by omega)
    refine B8 ?_; simp +decide only [sQ, reduceIte]; refine A4 ?_; simp only [sS]; simp +decide only [sQ]; refine A4 ?_; simp only [sS, hw1]; simp +decide only [sQ]; rw [List.take_of_length_le (by omega), ← hnext] at hD2; exact C6.mk (j - 1) (by omega) ⟨r + 1, es2, bn, nx, _, _, _, _, _, _, _, by omega, hG2.lower (by have := hG2.low; omega) (fun _ _ h => h), hD2, hxr.trans hx6, rfl⟩
  ·have hj : j = 0 := by have := of_decide_eq_false hlt; omega
   subst hj; have hrt : r = t := by omega
   subst hrt; refine B8 ?_; simp +decide only [sQ, reduceIte]; exact ⟨es, b, list, _, _, _, _, _, _, _, hG, hD, hxr, rfl⟩
 ·rintro e' Hs ⟨es, b, list, x6, x7, x8, x9, x13, x14, x15, hG, hD, hxs, rfl⟩; have hns := hxs.next; obtain ⟨f1, f2⟩ := fidx t (by omega); have hsort := C7y ⟨n, by omega⟩ ⟨t, by omega⟩; simp only at hsort; have hlen : es.length = (B1k n t).length := by have := congrArg List.length hD; simpa using this
  generalize B1k n t = I at *
  have hin : ∀ (l : List (List Nat)), (∀ v ∈ l, v ∈ I) → ∀ v ∈ l.foldl (B4z A1r) [], v ∈ I := by
   have h0 : ∀ (l acc : List (List Nat)), (∀ v ∈ l, v ∈ I) → (∀ v ∈ acc, v ∈ I) → ∀ v ∈ l.foldl (B4z A1r) acc, v ∈ I := by
    intro l
    induction l with
    | nil => intro acc _ h; exact h
    | cons a l ih =>
      intro acc h1 h2; refine ih _ (fun v hv => h1 v (by simp [hv])) (fun v hv => ?_); unfold B4z at hv; rcases List.mem_append.1 hv with hv | hv
      ·exact h2 v (List.mem_of_mem_take hv)
      ·rcases List.mem_cons.1 hv with rfl | hv
       ·exact h1 _ (by simp)
       ·exact h2 v (List.mem_of_mem_drop hv)
   exact fun l h => h0 l [] h (by simp)
  have hfl : ∀ (l acc : List (List Nat)), (l.foldl (B4z A1r) acc).length = acc.length + l.length := by
   intro l
   induction l with
   | nil => intro acc; simp
   | cons a l ih =>
     intro acc; rw [List.foldl_cons, ih]; simp [B4z]; omega
  refine A0 ?_; simp only [sS]; refine C7 (A0 ?_); simp only [sS, hG.slb.lenV]; refine A7 ?_; refine B9 (fun j e' H' => ∃ (m : Nat) (eo : List BX) (bo : Nat) (out x11 x12 : Value), m + j = es.length ∧ F3 H' Hs.next (H.next ≤ ·) bo out eo ∧ eo.map dat = ((I.take m).foldl (B4z A1r) []).map (L4 K t L U) ∧ Ext Hs H' ∧ e' = [.agg #[.int .i64 (K : Int), s, u], .int .i64 0, .pointer (some ⟨H.next, 0, none⟩), .slice none 0 0, .bool false, list, x6, x7, x8, x9, out, x11, x12, x13, x14, x15, list, .int .i64 es.length, .int .i64 m]) es.length ⟨0, [], Hs.next, .slice none 0 0, _, _, by omega, F3.nilL Hs Hs.next Hs.next _ (Nat.le_refl _), rfl, Ext.refl _, rfl⟩ ?_; rintro j e' H6 ⟨m, eo, bo, out, x11, x12, hmj, hO, hDo, hx6, rfl⟩; have hn6 := hx6.next; refine A9 ?_; simp only [sS]; refine C4.split (fun hlt2 => ?_) (fun hlt2 => ?_)
  ·have hm : m < es.length := by have := of_decide_eq_true hlt2; omega
   have hmI : m < I.length := by omega
   obtain ⟨o1, o2, u1, u2⟩ := hG.slb.at hm; have hdx := A3s hD hm (by rw [List.length_map]; exact hmI); rw [List.getElem_map] at hdx; obtain ⟨fv, fi⟩ := f2 _ (List.getElem_mem hmI); have hIt := List.take_succ_eq_append_getElem hmI; have hOI := hin (I.take m) (fun v hv => List.mem_of_mem_take hv); have hOl := hfl (I.take m) []; rw [List.length_nil, Nat.zero_add, List.length_take, Nat.min_eq_left (by omega)] at hOl; have hfold : (I.take (m + 1)).foldl (B4z A1r) [] = B4z A1r ((I.take m).foldl (B4z A1r) []) I[m] := by rw [hIt, List.foldl_append]; rfl
   generalize (I.take m).foldl (B4z A1r) [] = O at *
   generalize hvv : I[m] = vv at *
   have heol : eo.length = O.length := by have := congrArg List.length hDo; simpa using this
   obtain ⟨c, d, g1, g2, g3, g4, g5, g6, g7, g8⟩ := hG.el _ (List.getElem_mem hm); generalize es[m] = x at *
   obtain ⟨gx, gxl⟩ := B0n (K := K) (t := t) hL hU (by omega) (by omega) (by omega) hr fv fi; rw [← hdx] at gx gxl; simp only [dat] at gx gxl; obtain ⟨_, r2, _, _, r5, r6, r7⟩ := F7 gx; refine A2 ?_; simp +decide only [sQ]; refine A8 ?_; refine A0 ?_; have hst : C8 lim (H6.alloc [.int .i64 0, .slice none 0 0, .slice none 0 0]) 3 (.pointer (some ⟨H6.next, 0, none⟩)) (bxv x) = some (undef, H6.alloc [.int .i64 (x.k : Int), x.s, x.t]) := E7 (by omega); simp only [sS, u1, u2 H6 hx6, hst]; have hx7 := Ext.alloc H6 [.int .i64 (x.k : Int), x.s, x.t]; have hb7 : (H6.alloc [.int .i64 (x.k : Int), x.s, x.t]).blk H6.next = some [.int .i64 (x.k : Int), x.s, x.t] := A6 _ _; have hl7 : H6.next < (H6.alloc [.int .i64 (x.k : Int), x.s, x.t]).next := Nat.lt_succ_self _; generalize H6.alloc [.int .i64 (x.k : Int), x.s, x.t] = H7 at hx7 hb7 hl7 ⊢; generalize H6.next = px at hb7 hl7 hn6 ⊢; have hn7 := hx7.next; have hx67 := hx6.trans hx7; have hO7 := hO.ext hx7; refine A0 ?_; simp only [sS, hO7.slb.lenV]; refine N9 (fun e' H' => Ext H7 H' ∧ e' = [.agg #[.int .i64 (K : Int), s, u], .int .i64 0, .pointer (some ⟨H.next, 0, none⟩), .slice none 0 0, .bool false, list, x6, x7, x8, x9, out, .pointer (some ⟨px, 0, none⟩), .int .i64 (A47 A1r vv O O.length : Nat), x13, x14, x15, list, .int .i64 es.length, .int .i64 m]) ?_ ?_
   ·refine A8 ?_; refine B9 (fun k e' H' => k ≤ O.length ∧ A47 A1r vv O O.length = A47 A1r vv O k ∧ Ext H7 H' ∧ e' = [.agg #[.int .i64 (K : Int), s, u], .int .i64 0, .pointer (some ⟨H.next, 0, none⟩), .slice none 0 0, .bool false, list, x6, x7, x8, x9, out, .pointer (some ⟨px, 0, none⟩), .int .i64 (k : Nat), x13, x14, x15, list, .int .i64 es.length, .int .i64 m]) eo.length ⟨by omega, by rw [heol], Ext.refl _, rfl⟩ ?_; rintro k e' H8 ⟨hk, hcut, hx8, rfl⟩; have hn8 := hx8.next; refine J1 (decide (0 < k) && A1r vv (O.getD (k - 1) [])) (Ext H8) ?_ (fun H9 hx9 hgt => ?_) (fun H9 hx9 hgt => ?_)
    ·by_cases hk0 : 0 < k
     ·obtain ⟨k', rfl⟩ : ∃ k', k = k' + 1 := ⟨k - 1, by omega⟩; have d0 : decide (((k' + 1 : Nat) : Int) > 0) = true := decide_eq_true (by omega); have w1 : IntKind.i64.wrap (((k' + 1 : Nat) : Int) - 1) = (k' : Int) := by rw [show ((k' + 1 : Nat) : Int) - 1 = (k' : Int) by omega]; exact J0 (by omega)
      have hke : k' < eo.length := by omega
      have hkO : k' < O.length := by omega
      obtain ⟨p1, p2, y1, y2⟩ := hO7.slb.at hke; have hdy := A3s hDo hke (by rw [List.length_map]; exact hkO); rw [List.getElem_map] at hdy; obtain ⟨fw, fj⟩ := f2 _ (hOI _ (List.getElem_mem hkO)); obtain ⟨gy, gyl⟩ := B0n (K := K) (t := t) hL hU (by omega) (by omega) (by omega) hr fw fj; have hbef := D1x (K := K) (t := t) hr (by omega) (show vv.length = L.length by omega) (show O[k'].length = L.length by omega); rw [← hdy] at gy gyl hbef; rw [← hdx] at hbef; simp only [dat] at gy gyl hbef; obtain ⟨_, t2, _, _, t5, t6, t7⟩ := F7 gy; have hsl := hO7.slb.2 _ (List.getElem_mem hke); have hb8 : H8.blk px = some [.int .i64 (x.k : Int), x.s, x.t] := by rw [hx8.blk _ hl7]; exact hb7
      have gO : O.getD (k' + 1 - 1) [] = O[k'] := by simp [hkO]
      simp only [sS, d0, E9 hb8, w1, y1, y2 H8 hx8]; refine (C2h lim _ (bxv eo[k']) x.k eo[k'].k x.lo x.hi eo[k'].lo eo[k'].hi H8 (by omega) ⟨x.s, x.t, rfl, Vec.sl (Vec.ext g1 (hx67.trans hx8)), Vec.sl (Vec.ext g2 (hx67.trans hx8))⟩ ⟨_, _, rfl, SlI.ext hsl.1 hx8, SlI.ext hsl.2 hx8⟩ (by omega) (by omega) (by omega) (by omega) (fun z hz => by have := r6 z hz; omega) (fun z hz => by have := t6 z hz; omega)).mono ?_; rw [hbef]; rintro _ H9 ⟨rfl, hx9⟩; simp only [sS]; rw [gO]; exact ⟨by simp, trivial, hx9⟩
     ·have hk0' : k = 0 := by omega
      subst hk0'; have d0 : decide (((0 : Nat) : Int) > 0) = false := by decide
      simp only [sS, d0]; exact ⟨by simp, trivial, Ext.refl _⟩
    ·simp only [Bool.and_eq_true, decide_eq_true_eq] at hgt; obtain ⟨k', rfl⟩ : ∃ k', k = k' + 1 := ⟨k - 1, by omega⟩; have hkO : k' < O.length := by omega
     have w1 : IntKind.i64.wrap (((k' + 1 : Nat) : Int) - 1) = (k' : Int) := by rw [show ((k' + 1 : Nat) : Int) - 1 = (k' : Int) by omega]; exact J0 (by omega)
     have gO : O.getD (k' + 1 - 1) [] = O[k'] := by simp [hkO]
     rw [gO] at hgt; rw [B64 A1r vv O hkO, if_pos hgt.2] at hcut; refine A2 ?_; simp +decide only [sQ]; refine A8 ?_; refine A4 ?_; simp only [sS, w1]; simp +decide only [sQ]; exact C6.mk k' (by omega) ⟨by omega, hcut, hx8.trans hx9, rfl⟩
    ·refine B8 ?_; simp +decide only [sQ, reduceIte]; have hck : A47 A1r vv O k = k := by
      cases k with
      | zero => rfl
      | succ k' =>
        have hkO : k' < O.length := by omega
        have gO : O.getD (k' + 1 - 1) [] = O[k'] := by simp [hkO]
        rw [gO] at hgt; rw [B64 A1r vv O hkO, if_neg]; simpa using hgt
     rw [hcut, hck]; exact ⟨hx8.trans hx9, rfl⟩
   ·rintro e' G ⟨hxG, rfl⟩; have hnG := hxG.next; have hcl := D0o A1r vv O O.length (Nat.le_refl _); generalize hke : A47 A1r vv O O.length = k at hcl ⊢; have hxg := hx67.trans hxG; have hOG := hO7.ext hxG; obtain ⟨w1, a1, hw1⟩ := C96 hOG.slb.1 (k := k) (by omega); obtain ⟨w2, a2, hw2⟩ := C9g hOG.slb.1 (k := k) (by omega); have hbG : G.blk px = some [.int .i64 (x.k : Int), x.s, x.t] := by rw [hxG.blk _ hl7]; exact hb7
    have hcvx : C2 x.s = some [x.s] := Vec.cellsV g1; have hcvy : C2 x.t = some [x.t] := Vec.cellsV g2; have hbx : ∀ Hq : A1, E0 Hq 1 [.int .i64 0, .slice none 0 0, .slice none 0 0] [(0, 3, .agg #[.int .i64 (x.k : Int), x.s, x.t])] = some (.slice (some ⟨Hq.next, 0, some 0⟩) 1 1, Hq.alloc (bxc x)) := fun Hq => A08 Hq x hcvx hcvy
    have hb0 : ∀ Hq : A1, E0 Hq 0 [] [] = some (.slice (some ⟨Hq.next, 0, some 0⟩) 0 0, Hq.alloc []) := fun Hq => B44 Hq
    obtain ⟨⟨p1, p2, p3, p4, p5, p6, p7, p8, p9, p10, p11, p12, p13⟩, ⟨q1, q2, q3, q4, q5, q6, q7, q8, q9, q10, q11, q12⟩, ⟨z1, z2, z3, z4, z5, z6, z7, z8, z9, z10, z11, z12⟩⟩ := D1e (lim := lim) (lo := Hs.next) (P := (H.next ≤ ·)) (Hs := Hs) (G := G) (w1 := w1) (w2 := w2) (es := eo) (x := x) (k := k) (by omega) (Nat.le_refl _) (by omega) hxg (Vec.ext g1 hxg) (Vec.ext g2 hxg) g3 (by omega) g5 (by omega) hw1 hw2 (fun y hy => by
     obtain ⟨c, d, k1, k2, k3, k4, k5, k6, _⟩ := hOG.el y hy; exact ⟨c, d, k1, k2, k3, k4, k5, k6⟩) (by omega)
    refine d6 (fun e' H' => ∃ (a3 : Value) (b3 : Nat), F3 H' Hs.next (H.next ≤ ·) b3 a3 (eo.take k ++ x :: eo.drop k) ∧ Ext G H' ∧ e' = [.agg #[.int .i64 (K : Int), s, u], .int .i64 0, .pointer (some ⟨H.next, 0, none⟩), .slice none 0 0, .bool false, list, x6, x7, x8, x9, a3, .pointer (some ⟨px, 0, none⟩), .int .i64 (k : Nat), x13, x14, x15, list, .int .i64 es.length, .int .i64 m]) ?_ ?_
    ·have hxa := Ext.alloc G ([] : List Value); have hla : px < G.next := by omega
     have hbA : (G.alloc []).blk px = some [.int .i64 (x.k : Int), x.s, x.t] := by rw [hxa.blk _ hla]; exact hbG
     have hbP : p2.blk px = some [.int .i64 (x.k : Int), x.s, x.t] := by rw [p13.blk _ hla]; exact hbG
     simp only [sS, a1, a2, hb0, E9 hbG, E9 hbA, E9 hbP, hbx, p8, p9, p10, q8, q9, q10, z8, z9, z10]
     repeat' apply And.intro
     all_goals first
      | exact ⟨p5, p7, p11, p12, rfl⟩
      | exact ⟨q5, q7, q11, q12, rfl⟩
      | exact ⟨z5, z7, z11, z12, rfl⟩
    ·rintro e' H9 ⟨a3, b3, hG3, hx9, rfl⟩; refine A4 ?_; simp only [sS, D6 (i := m) (by omega)]; simp +decide only [sQ]; refine C6.mk (j - 1) (by omega) ⟨m + 1, _, b3, a3, _, _, by omega, hG3, ?_, hxg.trans hx9, rfl⟩; rw [hfold, B4z, hke, List.map_append, List.map_cons, List.map_append, List.map_cons, List.map_take, List.map_drop, hDo, hdx, List.map_take, List.map_drop]
  ·have hm : m = es.length := by have := of_decide_eq_false hlt2; omega
   subst hm; refine B8 ?_; simp +decide only [sQ, reduceIte]; refine A0 ?_; simp only [sS]; refine A3 ?_; simp +decide only [sQ]; rw [List.take_of_length_le (by omega)] at hDo; rw [← hsort]; exact ⟨⟨out, eo, bo, rfl, hDo, hO.lower (by have := hO.low; omega) (fun _ _ h => h)⟩, hxs.trans hx6⟩
end Go.Proofs.YtmdeppkfboaepaaGreat
namespace Go.Proofs.YtmdeppkfboaepaaGreat
open Go.Ab Ints
def j9 (t : Nat) (l : List Int) : List Int := l.map (· * 2 ^ t)
theorem A11 (t : Nat) (l : List Int) : (j9 t l).length = l.length := by simp [j9]
theorem B9q (lim : Nat) (s : Value) (l : List Int) (t : Nat) (H : A1) (hl : lim ≤ H.next) (hs : SlI H s l) (hn : l.length ≤ 900) (ht : t ≤ 2) (hsm : Sm l) :
 A5 Tryz.prog lim B9i [s, .int .i64 t] H fun v H' => (∃ b, H.next ≤ b ∧ C0 H' b v (j9 t l)) ∧ Ext H H' := by
 refine B5i.go rfl ?_; unfold A8d; refine A0 ?_; simp only [sS]; refine A0 ?_; simp only [sS]; refine C7 (A0 ?_); simp only [sS, hs.lenV]; refine A7 ?_; have hs0 : ¬ ((t : Int) < 0) := by omega
 have hmin : min ((t : Int)).toNat IntKind.i64.bits = t := by
  show min ((t : Int)).toNat 64 = t; omega
 refine B9 (fun j e' H' => ∃ (i b : Nat) (out x4 : Value), i + j = l.length ∧ C0 H' b out (j9 t (l.take i)) ∧ H.next ≤ b ∧ Ext H H' ∧ e' = [s, .int .i64 t, .slice none 0 0, out, x4, s, .int .i64 l.length, .int .i64 i]) l.length ⟨0, H.next, .slice none 0 0, _, by omega, Vec.nil _ _ _, Nat.le_refl _, Ext.refl _, rfl⟩ ?_; rintro j e' H2 ⟨i, b, out, x4, hij, hv, hb, hx, rfl⟩; have hnx := hx.next; refine A9 ?_; simp only [sS]; refine C4.split (fun hlt => ?_) (fun hlt => ?_)
 ·have hlt' : i < l.length := by simpa using hlt
  obtain ⟨b1, o1, u1, u2⟩ := X7 (SlI.ext hs hx) hlt'; have g1 : l.getD i 0 = l[i] := by simp [hlt']
  rw [g1] at u2; have m1 := hsm.get hlt'; have hp : (2 : Int) ^ t ≤ 4 := A38 ht; have hp1 := I7 t; have w1 : IntKind.i64.wrap (l[i] * 2 ^ t) = l[i] * 2 ^ t := by
   have h3 : t = 0 ∨ t = 1 ∨ t = 2 := by omega
   rcases h3 with rfl | rfl | rfl
   ·exact E3 (by omega) (by omega)
   ·exact E3 (by omega) (by omega)
   ·exact E3 (by omega) (by omega)
  obtain ⟨v', H3, b', e1, e2, e3, e4, e5, e6⟩ := n5 (lim := lim) (bytes := 8) hv (vi (l[i] * 2 ^ t)) (by omega) (by rw [A11, List.length_take]; omega); refine A2 ?_; simp +decide only [sQ]; refine A8 ?_; refine A0 ?_; simp only [sS, u1, u2]; refine A4 ?_; simp only [sS, hs0, hmin, w1, L7 _ (.int .i64 0) (x := .int .i64 (l[i] * 2 ^ t)) rfl, e1]; simp +decide only [sQ]; refine A4 ?_; simp only [sS, D6 (i := i) (by omega)]; simp +decide only [sQ]; refine C6.mk (j - 1) (by omega) ⟨i + 1, b', v', _, by omega, ?_, by rcases e3 with h | h <;> omega, Chg.ext hx e5 hb, rfl⟩; rw [List.take_succ_eq_append_getElem hlt', j9, List.map_append]; exact C0.snoc e2
 ·have hge : i = l.length := by simp at hlt; omega
  subst hge; refine B8 ?_; simp +decide only [sQ, reduceIte]; refine A0 ?_; simp only [sS]; refine A3 ?_; simp +decide only [sQ]; rw [List.take_length] at hv; exact ⟨⟨b, hb, hv⟩, hx⟩
theorem B99 (lim q i : Nat) (k : Int) (bl bu : Value) (L U : List Int) (H : A1) (hv : Ints.T0 H q k bl bu L U) (hi : i < L.length) (hlen : U.length = L.length) (s1 : Sm L) (s2 : Sm U) :
 A5 Tryz.prog lim B0u [.pointer (some ⟨q, 0, none⟩), .int .i64 i] H fun v H' => v = .int .i64 (U.getD i 0 - L.getD i 0) ∧ H' = H := by
 refine A88.go rfl ?_; unfold A2b; obtain ⟨b1, o1, u1, u2⟩ := X7 hv.low hi; obtain ⟨b2, o2, y1, y2⟩ := X7 hv.high (show i < U.length by omega); have m1 := s1.get hi; have m2 := s2.get (show i < U.length by omega); have g1 : L.getD i 0 = L[i] := by simp [hi]
 have g2 : U.getD i 0 = U[i]'(by omega) := by simp [show i < U.length by omega]
 have w1 : IntKind.i64.wrap (U.getD i 0 - L.getD i 0) = U.getD i 0 - L.getD i 0 := by rw [g1, g2]; exact E3 (by omega) (by omega)
 refine A0 ?_; simp only [sS]; refine A0 ?_; simp only [sS, Nat.zero_add, B7 hv.blk, u1, u2, y1, y2, w1]; refine A3 ?_; simp +decide only [sQ]
theorem F3.set {lim : Nat} {H : A1} {lo b : Nat} {P : Nat → Prop} {v : Value} {es : List BX} (h : F3 H lo P b v es) (hlim : lim ≤ lo) {i : Nat} (hi : i < es.length) {y : BX} {c d : Nat} (hc : C0 H c y.s y.lo) (hd : C0 H d y.t y.hi) (c1 : P c) (c2 : c < H.next) (d1 : P d) (d2 : d < H.next) (cb : c ≠ b) (db : d ≠ b) :
 F1 3 v (.int .i64 i) = some (.pointer (some ⟨b, i * 3, none⟩)) ∧ ∃ cs, C8 lim H 3 (.pointer (some ⟨b, i * 3, none⟩)) (bxv y) = some (undef, H.put b cs) ∧ F3 (H.put b cs) lo P b v (es.set i y) := by
 refine ⟨Vec.iad h.vec .i64 hi, ?_⟩; have hlow := h.low; obtain ⟨cs, h1, h2⟩ := h.vec.put (lim := lim) (by omega) (B90 y) rfl (by simp [bxc]) (o := i * 3) (by simp [bxc]; omega); rw [C54 y hi] at h2; have hch : Chg b H (H.put b cs) := Chg.put _ _ _; refine ⟨cs, h1, ⟨by rw [List.length_set]; exact h2, h.low, .inr ?_, fun x hx => ?_⟩⟩
 ·rcases h.st with ⟨_, rfl⟩ | hb
  ·simp at hi
  ·exact hb
 ·rcases List.mem_or_eq_of_mem_set hx with hx | rfl
  ·obtain ⟨c', d', k1, k2, k3, k4, k5, k6, k7, k8⟩ := h.el x hx; exact ⟨c', d', Vec.chg k1 hch k7, Vec.chg k2 hch k8, k3, k4, k5, k6, k7, k8⟩
  ·exact ⟨c, d, Vec.chg hc hch cb, Vec.chg hd hch db, c1, c2, d1, d2, cb, db⟩
theorem B95 (t : Nat) : ∀ (av hs : List Int) (v : List Nat) (a h : Int) (p : Nat), hs.length = av.length → v.length = av.length → N7 t (av ++ [a]) (hs ++ [h]) (v ++ [p]) = N7 t av hs v ++ [2 ^ t * a + p * (h - a)]
 | [], hs, v, a, h, p, h1, h2 => by
   have e1 : hs = [] := List.length_eq_zero_iff.1 (by simpa using h1); have e2 : v = [] := List.length_eq_zero_iff.1 (by simpa using h2); subst e1 e2; rfl
 | x :: av, [], _, _, _, _, h1, _ => by simp at h1
 | x :: av, y :: hs, [], _, _, _, _, h2 => by simp at h2
 | x :: av, y :: hs, i :: v, a, h, p, h1, h2 => by
   simp only [List.cons_append, N7]; rw [B95 t av hs v a h p (by simpa using h1) (by simpa using h2)]
theorem B6i (t : Nat) : ∀ (av hs : List Int) (v : List Nat) (a h : Int) (p : Nat), hs.length = av.length → v.length = av.length → K7 t (av ++ [a]) (hs ++ [h]) (v ++ [p]) = K7 t av hs v ++ [2 ^ t * a + (p + 1) * (h - a)]
 | [], hs, v, a, h, p, h1, h2 => by
   have e1 : hs = [] := List.length_eq_zero_iff.1 (by simpa using h1); have e2 : v = [] := List.length_eq_zero_iff.1 (by simpa using h2); subst e1 e2; rfl
 | x :: av, [], _, _, _, _, h1, _ => by simp at h1
 | x :: av, y :: hs, [], _, _, _, _, h2 => by simp at h2
 | x :: av, y :: hs, i :: v, a, h, p, h1, h2 => by
   simp only [List.cons_append, K7]; rw [B6i t av hs v a h p (by simpa using h1) (by simpa using h2)]
def P3 (t i : Nat) (L U : List Int) (v : List Nat) : List Int := N7 t (L.take i) (U.take i) v ++ j9 t (L.drop i)
def A0l (t i : Nat) (L U : List Int) (v : List Nat) : List Int := K7 t (L.take i) (U.take i) v ++ j9 t (U.drop i)
theorem C99 {x y : List Int} {a b : Int} {n : Nat} (h : x.length = n) : (x ++ a :: y).set n b = x ++ b :: y := by subst h; exact C15 x y a b
theorem C83 {x y : List Int} {a : Int} {n : Nat} (h : x.length = n) : (x ++ a :: y).getD n 0 = a := by subst h; exact B7q x y a
theorem C60 {t i n : Nat} {L U : List Int} {v : List Nat} (hL : L.length = n) (hU : U.length = n) (hi : i ≤ n) (hv : v.length = i) : (P3 t i L U v).length = n ∧ (A0l t i L U v).length = n := by
 have e1 := M2 t (L.take i) (U.take i) v (by simp [hL, hU]) (by simp [hL]; omega); have e2 := L0 t (L.take i) (U.take i) v (by simp [hL, hU]) (by simp [hL]; omega); rw [List.length_take] at e1 e2; simp only [P3, A0l, List.length_append, A11, List.length_drop]; omega
theorem D0l {t i n p : Nat} {L U : List Int} {v : List Nat} (hL : L.length = n) (hU : U.length = n) (hi : i < n) (hv : v.length = i) :
 (P3 t i L U v).getD i 0 = L.getD i 0 * 2 ^ t ∧
 (P3 t i L U v).set i (L.getD i 0 * 2 ^ t + p * (U.getD i 0 - L.getD i 0)) = P3 t (i + 1) L U (v ++ [p]) ∧
 (P3 t (i + 1) L U (v ++ [p])).getD i 0 = L.getD i 0 * 2 ^ t + p * (U.getD i 0 - L.getD i 0) ∧
 (A0l t i L U v).set i (L.getD i 0 * 2 ^ t + p * (U.getD i 0 - L.getD i 0) + (U.getD i 0 - L.getD i 0)) = A0l t (i + 1) L U (v ++ [p]) := by
 have hiL : i < L.length := by omega
 have hiU : i < U.length := by omega
 have gL : L.getD i 0 = L[i] := by simp [hiL]
 have gU : U.getD i 0 = U[i] := by simp [hiU]
 have e1 := M2 t (L.take i) (U.take i) v (by simp [hL, hU]) (by simp [hL]; omega); have e2 := L0 t (L.take i) (U.take i) v (by simp [hL, hU]) (by simp [hL]; omega); rw [List.length_take, Nat.min_eq_left (by omega)] at e1 e2; have dL : L.drop i = L[i] :: L.drop (i + 1) := List.drop_eq_getElem_cons hiL; have dU : U.drop i = U[i] :: U.drop (i + 1) := List.drop_eq_getElem_cons hiU; have tL := List.take_succ_eq_append_getElem hiL; have tU := List.take_succ_eq_append_getElem hiU; have c1 : (2 : Int) ^ t * L[i] = L[i] * 2 ^ t := Int.mul_comm _ _; have c2 : ((p : Int) + 1) * (U[i] - L[i]) = p * (U[i] - L[i]) + (U[i] - L[i]) := by rw [Int.add_mul, Int.one_mul]
 rw [gL, gU]; unfold P3 A0l; rw [tL, tU, B95 _ _ _ _ _ _ _ (by simp [hL, hU]) (by simp [hL]; omega), B6i _ _ _ _ _ _ _ (by simp [hL, hU]) (by simp [hL]; omega), dL, dU, c1, c2]; simp only [j9, List.map_cons]; refine ⟨C83 e1, ?_, ?_, ?_⟩
 ·rw [C99 e1, List.append_assoc]; rfl
 ·rw [List.append_assoc]; exact C83 e1
 ·rw [C99 e2, List.append_assoc, Int.add_assoc]; rfl
end Go.Proofs.YtmdeppkfboaepaaGreat
namespace Go.Proofs.YtmdeppkfboaepaaGreat
open Go.Ab Ints
theorem Sm.of_good {k : Int} {L U : List Int} (h : G0 k L U = true) : Sm L ∧ Sm U := by
 obtain ⟨_, _, _, _, _, h6, h7⟩ := F7 h; exact ⟨fun x hx => by have := h6 x hx; omega, fun x hx => by have := h7 x hx; omega⟩
theorem C7n {p t : Nat} {d : Int} (hp : p ≤ 4) (hd : d.natAbs ≤ 8192) : ((p : Int) * d).natAbs ≤ 4 * 8192 := by
 rw [Int.natAbs_mul, Int.natAbs_natCast]; exact Nat.mul_le_mul hp hd
theorem F3.pushX {lim : Nat} {H0 H H2 : A1} {lo b c d : Nat} {P : Nat → Prop} {v : Value} {es : List BX} {x : BX} (h : F3 H lo P b v es) (hlim : lim ≤ lo) (hx0 : Ext H0 H) (hlo : H0.next ≤ lo) (hloH : lo ≤ H.next) (hx : Ext H H2)
 (hc : C0 H2 c x.s x.lo) (hd : C0 H2 d x.t x.hi) (c1 : P c) (c2 : c < H2.next) (d1 : P d) (d2 : d < H2.next) (hcb : (v = .slice none 0 0 ∧ es = []) ∨ c ≠ b ∧ d ≠ b) (hn : es.length ≤ 100000) :
 ∃ v' H3 b', E4 lim (H2.alloc (bxc x)) 3 56 v (.slice (some ⟨H2.next, 0, some 0⟩) 1 1) = some (v', H3) ∧ F3 H3 lo P b' v' (es ++ [x]) ∧ Ext H0 H3 ∧ (∀ c, c < H2.next → c ≠ b → H3.blk c = H2.blk c) ∧ H2.next ≤ H3.next ∧ (b' = b ∨ H2.next ≤ b') := by
 have hxa := Ext.alloc H2 (bxc x); have hna : H2.next < (H2.alloc (bxc x)).next := Nat.lt_succ_self _; obtain ⟨v', H3, b', g1, g2, g3, g4, g5, g6⟩ := h.appendX hlim hx0 hlo hloH (hx.trans hxa) (es2 := [x]) (Vec.sl (Vec.lit (by simp [bxs, bxc]))) (fun y hy => by
  rw [List.mem_singleton] at hy; subst hy; exact ⟨c, d, Vec.ext hc hxa, Vec.ext hd hxa, c1, by omega, d1, by omega, hcb⟩) (by rw [List.length_singleton]; omega)
 exact ⟨v', H3, b', g1, g2, g3, fun c hc' hcb' => by rw [g4 c (by omega) (.inr hcb'), hxa.blk _ hc'], by omega, g6.imp id fun h => by omega⟩
theorem D1h {m : Int} {l h : List Int} (hr : L9 m l h = true) (hlen : h.length = l.length) (h0 : 0 ≤ m) (hm : m ≤ 1000000) : InR l ∧ InR h := by
 have hR := A50 hr hlen h0; refine ⟨fun x hx => ?_, fun x hx => ?_⟩
 ·obtain ⟨j, hj, rfl⟩ := List.getElem_of_mem hx; have := hR j; rw [show l.getD j 0 = l[j] by simp [hj]] at this; omega
 ·obtain ⟨j, hj, rfl⟩ := List.getElem_of_mem hx; have := hR j; rw [show h.getD j 0 = h[j] by simp [hj]] at this; omega
theorem C8e (lim q K t n : Nat) (bl bu : Value) (L U : List Int) (H : A1) (hl : lim ≤ H.next) (hv : Ints.T0 H q K bl bu L U) (hq : q < H.next) (hg : G0 K L U = true) (hK : K ≤ 4) (ht : t ≤ 2) (hL : L.length = n) :
 A5 Tryz.prog lim B3c [.pointer (some ⟨q, 0, none⟩), .int .i64 t] H fun v H' => (∃ w es b, v = .tuple #[w, .bool true] ∧ es.map dat = (n9 (2 ^ t) n).map (L4 K t L U) ∧ F3 H' H.next (H.next ≤ ·) b w es) ∧ Ext H H' := by
 obtain ⟨q1, q2, q3, q4, q5, q6, q7⟩ := F7 hg; have hU : U.length = n := by omega
 obtain ⟨sm1, sm2⟩ := Sm.of_good hg; have hr : L9 (8 * 2 ^ K) L U = true := by
  simp only [G0, Bool.and_eq_true] at hg; simpa using hg.1.2
 have hp4 : 2 ^ t ≤ 2 ^ 2 := Nat.pow_le_pow_right (by decide) ht; have hpi : ((2 ^ t : Nat) : Int) = (2 : Int) ^ t := B5a t; have hp1 := I7 t; refine B0q.go rfl ?_; unfold A22; refine A0 ?_; simp only [sS]; refine A0 ?_; simp only [sS, Nat.zero_add, B7 hv.blk]; refine (B9q _ bl L t H (Nat.le_refl _) hv.low (by omega) ht sm1).use ?_; rintro s0 H1 ⟨⟨c0, c01, hv0⟩, hx1⟩ _; have hn1 := hx1.next; simp only [sS]; refine (B9q lim bu U t H1 (by omega) (SlI.ext hv.high hx1) (by omega) ht sm2).mono ?_; rintro u0 H2 ⟨⟨d0, d01, hw0⟩, hx2⟩; have hn2 := hx2.next; have hc0 : c0 < H1.next := (Vec.blk hv0 (by rw [A11]; omega)).elim fun _ h => h.2
 have hd0 : d0 < H2.next := (Vec.blk hw0 (by rw [A11]; omega)).elim fun _ h => h.2
 have hf2 : C9 [.int .i64 0, .slice none 0 0, .slice none 0 0] [(1, 1, s0), (2, 1, u0)] = some [.int .i64 0, s0, u0] := by simp [C9, Vec.cellsV hv0, Vec.cellsV hw0]
 have hb1 := A08 H2 ⟨0, s0, u0, j9 t L, j9 t U⟩ (Vec.cellsV hv0) (Vec.cellsV hw0); simp only [bxv] at hb1; have hb1' : E0 H2 1 [.int .i64 0, .slice none 0 0, .slice none 0 0] [(0, 3, .agg #[.int .i64 0, s0, u0])] = some (.slice (some ⟨H2.next, 0, some 0⟩) 1 1, H2.alloc (bxc ⟨0, s0, u0, j9 t L, j9 t U⟩)) := hb1; simp only [sS, hf2, hb1']; have hx3 := Ext.alloc H2 (bxc ⟨0, s0, u0, j9 t L, j9 t U⟩); have hn3 := hx3.next; have hx03 := (hx1.trans hx2).trans hx3; have hG0 : F3 (H2.alloc (bxc ⟨0, s0, u0, j9 t L, j9 t U⟩)) H.next (H.next ≤ ·) H2.next (.slice (some ⟨H2.next, 0, some 0⟩) 1 1) [⟨0, s0, u0, j9 t L, j9 t U⟩] := by
  refine ⟨by rw [B43]; exact Vec.lit rfl, by omega, .inr (Nat.lt_succ_self _), fun y hy => ?_⟩; rw [List.mem_singleton] at hy; subst hy; exact ⟨c0, d0, Vec.ext hv0 (hx2.trans hx3), Vec.ext hw0 hx3, by omega, by omega, by omega, by omega, by omega, by omega⟩
 have hD0 : ([⟨0, s0, u0, j9 t L, j9 t U⟩] : List BX).map dat = (n9 (2 ^ t) 0).map (fun v => (0, P3 t 0 L U v, A0l t 0 L U v)) := by
  simp [n9, P3, A0l, N7, K7, dat]
 generalize H2.alloc (bxc ⟨0, s0, u0, j9 t L, j9 t U⟩) = H3 at hG0 hx3 hn3 hx03 ⊢; generalize (Value.slice (some ⟨H2.next, 0, some 0⟩) 1 1) = l0 at hG0 ⊢; generalize ([⟨0, s0, u0, j9 t L, j9 t U⟩] : List BX) = es0 at hG0 hD0; generalize H2.next = b0 at hG0; have hs0 : ¬ ((t : Int) < 0) := by omega
 have hmin : IntKind.i64.wrap (1 * 2 ^ min ((t : Int)).toNat IntKind.i64.bits) = ((2 ^ t : Nat) : Int) := by
  have : min ((t : Int)).toNat IntKind.i64.bits = t := by
   show min ((t : Int)).toNat 64 = t; omega
  rw [this, Int.one_mul, ← hpi]; exact J0 (by omega)
 have hvq : ∀ G, Ext H G → Ints.T0 G q K bl bu L U := fun G hg => hv.ext hq hg
 refine N9 (fun e' H' => ∃ (es : List BX) (b : Nat) (out x5 x6 x7 x8 x9 x14 x15 x16 x17 x18 x19 x20 : Value), F3 H' H.next (H.next ≤ ·) b out es ∧ es.map dat = (n9 (2 ^ t) n).map (fun v => (0, P3 t n L U v, A0l t n L U v)) ∧ Ext H H' ∧ e' = [.pointer (some ⟨q, 0, none⟩), .int .i64 t, .slice none 0 0, .bool false, out, x5, x6, x7, x8, x9, undef, undef, undef, undef, x14, x15, x16, x17, x18, x19, x20, undef, undef, undef]) ?_ ?_
 ·refine A0 ?_; simp only [sS, Nat.zero_add, B7 (hvq H3 hx03).blk, hv.low.lenV]; rw [hL]; refine A8 ?_; refine B9 (fun j e' H' => ∃ (i : Nat) (es : List BX) (b : Nat) (out x5 x6 x7 x8 x9 x16 x17 x18 x19 x20 : Value), i + j = n ∧ F3 H' H.next (H.next ≤ ·) b out es ∧ es.map dat = (n9 (2 ^ t) i).map (fun v => (0, P3 t i L U v, A0l t i L U v)) ∧ Ext H H' ∧ e' = [.pointer (some ⟨q, 0, none⟩), .int .i64 t, .slice none 0 0, .bool false, out, x5, x6, x7, x8, x9, undef, undef, undef, undef, .int .i64 n, .int .i64 i, x16, x17, x18, x19, x20, undef, undef, undef]) n ⟨0, es0, b0, l0, _, _, _, _, _, _, _, _, _, _, by omega, hG0, hD0, hx03, rfl⟩ ?_; clear hG0 hD0 hx03; rintro j e' Hr ⟨i, es, b, out, x5, x6, x7, x8, x9, x16, x17, x18, x19, x20, hij, hG, hD, hxr, rfl⟩; have hnr := hxr.next; refine A9 ?_; simp only [sS]; refine C4.split (fun hlt => ?_) (fun hlt => ?_)
  ·have hi : i < n := by have := of_decide_eq_true hlt; omega
   obtain ⟨f1, f2⟩ := A3u ⟨i, by omega⟩ ⟨t, by omega⟩; simp only at f1 f2; have hnext : n9 (2 ^ t) (i + 1) = (n9 (2 ^ t) i).flatMap fun l => (List.range (2 ^ t)).map fun p => l ++ [p] := rfl
   have hlen : es.length = (n9 (2 ^ t) i).length := by have := congrArg List.length hD; simpa using this
   generalize n9 (2 ^ t) i = I at *
   refine A2 ?_; simp +decide only [sQ]; refine A8 ?_; refine A0 ?_; simp only [sS]; refine A0 ?_; simp only [sS]; refine C7 (A0 ?_); simp only [sS, hG.slb.lenV]; refine A7 ?_; refine B9 (fun j2 e' H' => ∃ (m : Nat) (es2 : List BX) (bn : Nat) (nx x7 x8 x9 x19 x20 : Value), m + j2 = es.length ∧ F3 H' Hr.next (H.next ≤ ·) bn nx es2 ∧ es2.map dat = ((I.take m).flatMap fun l => (List.range (2 ^ t)).map fun p => l ++ [p]).map (fun v => (0, P3 t (i + 1) L U v, A0l t (i + 1) L U v)) ∧ Ext Hr H' ∧ e' = [.pointer (some ⟨q, 0, none⟩), .int .i64 t, .slice none 0 0, .bool false, out, .int .i64 i, nx, x7, x8, x9, undef, undef, undef, undef, .int .i64 n, .int .i64 i, out, .int .i64 es.length, .int .i64 m, x19, x20, undef, undef, undef]) es.length ⟨0, [], Hr.next, .slice none 0 0, _, _, _, _, _, by omega, F3.nilL Hr Hr.next Hr.next _ (Nat.le_refl _), rfl, Ext.refl _, rfl⟩ ?_; rintro j2 e' H6 ⟨m, es2, bn, nx, x7, x8, x9, x19, x20, hmj, hG2, hD2, hx6, rfl⟩; have hn6 := hx6.next; refine A9 ?_; simp only [sS]; refine C4.split (fun hlt2 => ?_) (fun hlt2 => ?_)
   ·have hm : m < es.length := by have := of_decide_eq_true hlt2; omega
    have hmI : m < I.length := by omega
    obtain ⟨o1, o2, u1, u2⟩ := hG.slb.at hm; have hdx := A3s hD hm (by rw [List.length_map]; exact hmI); rw [List.getElem_map] at hdx; obtain ⟨fv, fi⟩ := f2 _ (List.getElem_mem hmI); have hIt := List.take_succ_eq_append_getElem hmI; have hl2 : es2.length ≤ 64 * 4 := by
     have h1 := congrArg List.length hD2; rw [List.length_map, List.length_map] at h1; rw [h1]; have h2 := B2t (fun l : List Nat => (List.range (2 ^ t)).map fun p => l ++ [p]) 4 (fun l => by simp; omega) (I.take m); have h3 : (I.take m).length ≤ 64 := by rw [List.length_take]; omega
     omega
    generalize I[m] = vv at *
    obtain ⟨c, d, g1, g2, g3, g4, g5, g6, g7, g8⟩ := hG.el _ (List.getElem_mem hm); generalize es[m] = x at *
    obtain ⟨xk, xs, xt, xlo, xhi⟩ := x; simp only [dat, Prod.mk.injEq] at hdx; obtain ⟨rfl, rfl, rfl⟩ := hdx; obtain ⟨ml1, ml2⟩ := C60 (t := t) hL hU (by omega) fv; simp only at g1 g2; refine A2 ?_; simp +decide only [sQ]; refine A8 ?_; refine A0 ?_; have hst : C8 lim (H6.alloc [.int .i64 0, .slice none 0 0, .slice none 0 0]) 3 (.pointer (some ⟨H6.next, 0, none⟩)) (bxv ⟨0, xs, xt, P3 t i L U vv, A0l t i L U vv⟩) = some (undef, H6.alloc [.int .i64 0, xs, xt]) := E7 (by omega); simp only [sS, u1, u2 H6 hx6, hst]; have hx7 := Ext.alloc H6 [.int .i64 0, xs, xt]; have hb7 : (H6.alloc [.int .i64 0, xs, xt]).blk H6.next = some [.int .i64 0, xs, xt] := A6 _ _; have hl7 : H6.next < (H6.alloc [.int .i64 0, xs, xt]).next := Nat.lt_succ_self _; generalize H6.alloc [.int .i64 0, xs, xt] = H7 at hx7 hb7 hl7 ⊢; generalize hpx : H6.next = px at hb7 hl7 ⊢; have hn7 := hx7.next; have hx67 := hx6.trans hx7; obtain ⟨bn', hG7, hne7⟩ : ∃ bn', F3 H7 Hr.next (H.next ≤ ·) bn' nx es2 ∧ px ≠ bn' := by
     rcases hG2.st with ⟨rfl, rfl⟩ | hb
     ·exact ⟨px + 1, F3.nilL H7 Hr.next (px + 1) _ (by omega), by omega⟩
     ·exact ⟨bn, hG2.ext hx7, by omega⟩
    refine A0 ?_; simp only [sS, hs0, hmin]; refine A8 ?_; refine B9 (fun j3 e' H' => ∃ (p : Nat) (es3 : List BX) (bn : Nat) (nx x8 x9 : Value), p + j3 = 2 ^ t ∧ F3 H' Hr.next (H.next ≤ ·) bn nx (es2 ++ es3) ∧ es3.map dat = ((List.range p).map fun p => vv ++ [p]).map (fun v => (0, P3 t (i + 1) L U v, A0l t (i + 1) L U v)) ∧ Ext Hr H' ∧ H'.blk px = some [.int .i64 0, xs, xt] ∧ px ≠ bn ∧ px < H'.next ∧ e' = [.pointer (some ⟨q, 0, none⟩), .int .i64 t, .slice none 0 0, .bool false, out, .int .i64 i, nx, .pointer (some ⟨px, 0, none⟩), x8, x9, undef, undef, undef, undef, .int .i64 n, .int .i64 i, out, .int .i64 es.length, .int .i64 m, .int .i64 (2 ^ t : Nat), .int .i64 p, undef, undef, undef]) (2 ^ t) ⟨0, [], bn', nx, _, _, by omega, by rw [List.append_nil]; exact hG7, rfl, hx67, hb7, hne7, hl7, rfl⟩ ?_; clear hG7; rintro j3 e' H8 ⟨p, es3, bn3, nx3, x8, x9, hpj, hG3, hD3, hx8, hb8, hne8, hl8, rfl⟩; have hn8 := hx8.next; refine A9 ?_; simp only [sS]; refine C4.split (fun hlt3 => ?_) (fun hlt3 => ?_)
    ·have hp : p < 2 ^ t := by have := of_decide_eq_true hlt3; omega
     have hl3 : es3.length ≤ 4 := by
      have h1 := congrArg List.length hD3; simp at h1; omega
     obtain ⟨m1, m2, m3, m4⟩ := D0l (t := t) (p := p) hL hU hi fv; have hiL : i < L.length := by omega
     have hiU : i < U.length := by omega
     have bL := q6 _ (List.getElem_mem hiL); have bU := q7 _ (List.getElem_mem hiU); have eL : L.getD i 0 = L[i] := by simp [hiL]
     have eU : U.getD i 0 = U[i] := by simp [hiU]
     rw [← eL] at bL; rw [← eU] at bU; have hd1 := C7n (p := p) (t := t) (d := U.getD i 0 - L.getD i 0) (by omega) (by omega); have hs1 : (L.getD i 0 * 2 ^ t).natAbs ≤ 8192 := by
      rw [Int.natAbs_mul, ← hpi, Int.natAbs_natCast]; exact Nat.le_trans (Nat.mul_le_mul (show (L.getD i 0).natAbs ≤ 2048 by omega) (show 2 ^ t ≤ 4 by omega)) (by decide)
     have wm1 : IntKind.i64.wrap ((p : Int) * (U.getD i 0 - L.getD i 0)) = (p : Int) * (U.getD i 0 - L.getD i 0) := E3 (by omega) (by omega); have wm2 : IntKind.i64.wrap (L.getD i 0 * 2 ^ t + (p : Int) * (U.getD i 0 - L.getD i 0)) = L.getD i 0 * 2 ^ t + (p : Int) * (U.getD i 0 - L.getD i 0) := E3 (by omega) (by omega); have wm3 : IntKind.i64.wrap (L.getD i 0 * 2 ^ t + (p : Int) * (U.getD i 0 - L.getD i 0) + (U.getD i 0 - L.getD i 0)) = L.getD i 0 * 2 ^ t + (p : Int) * (U.getD i 0 - L.getD i 0) + (U.getD i 0 - L.getD i 0) := E3 (by omega) (by omega); have g1' := Vec.ext g1 hx8; have g2' := Vec.ext g2 hx8; refine A2 ?_; simp +decide only [sQ]; refine A8 ?_; refine A0 ?_; simp only [sS]; refine d6 (fun e' H' => ∃ (ys yt : Value) (yc yd yp : Nat), C0 H' yc ys (P3 t i L U vv) ∧ C0 H' yd yt (A0l t i L U vv) ∧ H'.blk yp = some [.int .i64 0, ys, yt] ∧ H8.next ≤ yc ∧ yc < H'.next ∧ H8.next ≤ yd ∧ yd < H'.next ∧ H8.next ≤ yp ∧ yp < H'.next ∧ yc ≠ yd ∧ yc ≠ yp ∧ yd ≠ yp ∧ Ext H8 H' ∧ e' = [.pointer (some ⟨q, 0, none⟩), .int .i64 t, .slice none 0 0, .bool false, out, .int .i64 i, nx3, .pointer (some ⟨px, 0, none⟩), .int .i64 p, .pointer (some ⟨yp, 0, none⟩), undef, undef, undef, undef, .int .i64 n, .int .i64 i, out, .int .i64 es.length, .int .i64 m, .int .i64 (2 ^ t : Nat), .int .i64 p, undef, undef, undef]) ?_ ?_
     ·have hfy : ∀ (ys yt : Value), C2 ys = some [ys] → C2 yt = some [yt] → C9 [.int .i64 0, .slice none 0 0, .slice none 0 0] [(1, 1, ys), (2, 1, yt)] = some [.int .i64 0, ys, yt] := fun ys yt a b => by simp [C9, a, b]
      have lt1 : ∀ (G : A1) (yc : Nat) (ys : Value), C0 G yc ys (P3 t i L U vv) → yc < G.next := fun G yc ys h => (Vec.blk h (by omega)).elim fun _ h => h.2
      have lt2 : ∀ (G : A1) (yc : Nat) (ys : Value), C0 G yc ys (A0l t i L U vv) → yc < G.next := fun G yc ys h => (Vec.blk h (by omega)).elim fun _ h => h.2
      have hz := Ext.alloc H8 [.int .i64 0, .slice none 0 0, .slice none 0 0]; have hzb : (H8.alloc [.int .i64 0, .slice none 0 0, .slice none 0 0]).blk H8.next = some [.int .i64 0, .slice none 0 0, .slice none 0 0] := A6 _ _; have hzn : (H8.alloc [.int .i64 0, .slice none 0 0, .slice none 0 0]).next = H8.next + 1 := rfl; simp only [sS, Nat.zero_add, B7 hb8]; refine ⟨?_, ?_⟩
      ·refine (Ints.N3 _ xs _ H8 (Nat.le_refl _) (Vec.sl g1') (by omega)).use ?_; rintro ys Ha ⟨yc, y1, _, y3, hxa⟩ _; have hna := hxa.next; have y4 := lt1 _ _ _ y3; simp only [sS]; refine ⟨?_, ?_⟩
       ·refine (Ints.N3 lim xt _ Ha (by omega) (Vec.sl (Vec.ext g2' hxa)) (by omega)).mono ?_; rintro yt Hb ⟨yd, y5, _, y6, hxb⟩; have hnb := hxb.next; have y7 := lt2 _ _ _ y6; have hst : C8 lim (Hb.alloc [.int .i64 0, .slice none 0 0, .slice none 0 0]) 3 (.pointer (some ⟨Hb.next, 0, none⟩)) (.agg #[.int .i64 0, ys, yt]) = some (undef, Hb.alloc [.int .i64 0, ys, yt]) := E7 (by omega); simp only [sS, hfy ys yt (Vec.cellsV y3) (Vec.cellsV y6), hst]; have hxc := Ext.alloc Hb [.int .i64 0, ys, yt]; have hnc : (Hb.alloc [.int .i64 0, ys, yt]).next = Hb.next + 1 := rfl; exact ⟨ys, yt, yc, yd, Hb.next, Vec.ext y3 (hxb.trans hxc), Vec.ext y6 hxc, A6 _ _, by omega, by omega, by omega, by omega, by omega, by omega, by omega, by omega, by omega, (hxa.trans hxb).trans hxc, rfl⟩
       ·have hxz := Ext.alloc Ha [.int .i64 0, .slice none 0 0, .slice none 0 0]; have hab : (Ha.alloc [.int .i64 0, .slice none 0 0, .slice none 0 0]).blk Ha.next = some [.int .i64 0, .slice none 0 0, .slice none 0 0] := A6 _ _; have han : (Ha.alloc [.int .i64 0, .slice none 0 0, .slice none 0 0]).next = Ha.next + 1 := rfl; generalize Ha.alloc [.int .i64 0, .slice none 0 0, .slice none 0 0] = Hz at hxz hab han ⊢; refine (Ints.N3 lim xt _ Hz (by omega) (Vec.sl (Vec.ext g2' (hxa.trans hxz))) (by omega)).mono ?_; rintro yt Hb ⟨yd, y5, _, y6, hxb⟩; have hnb := hxb.next; have y7 := lt2 _ _ _ y6; have hst : C8 lim Hb 3 (.pointer (some ⟨Ha.next, 0, none⟩)) (.agg #[.int .i64 0, ys, yt]) = some (undef, Hb.put Ha.next [.int .i64 0, ys, yt]) := L5 (by omega) (by rw [hxb.blk _ (by omega)]; exact hab); simp only [sS, hfy ys yt (Vec.cellsV y3) (Vec.cellsV y6), hst]; have hch : Chg Ha.next Hb (Hb.put Ha.next [.int .i64 0, ys, yt]) := Chg.put _ _ _; have hnp : (Hb.put Ha.next [.int .i64 0, ys, yt]).next = Hb.next := rfl; exact ⟨ys, yt, yc, yd, Ha.next, Vec.chg (Vec.ext y3 (hxz.trans hxb)) hch (by omega), Vec.chg y6 hch (by omega), D3 _ _ _, by omega, by omega, by omega, by omega, by omega, by omega, by omega, by omega, by omega, Chg.ext ((hxa.trans hxz).trans hxb) hch (by omega), rfl⟩
      ·generalize H8.alloc [.int .i64 0, .slice none 0 0, .slice none 0 0] = Hz at hz hzb hzn ⊢; refine (Ints.N3 _ xs _ Hz (Nat.le_refl _) (Vec.sl (Vec.ext g1' hz)) (by omega)).use ?_; rintro ys Ha ⟨yc, y1, _, y3, hxa⟩ _; have hna := hxa.next; have y4 := lt1 _ _ _ y3; simp only [sS]; refine (Ints.N3 lim xt _ Ha (by omega) (Vec.sl (Vec.ext g2' (hz.trans hxa))) (by omega)).mono ?_; rintro yt Hb ⟨yd, y5, _, y6, hxb⟩; have hnb := hxb.next; have y7 := lt2 _ _ _ y6; have hst : C8 lim Hb 3 (.pointer (some ⟨H8.next, 0, none⟩)) (.agg #[.int .i64 0, ys, yt]) = some (undef, Hb.put H8.next [.int .i64 0, ys, yt]) := L5 (by omega) (by rw [(hxa.trans hxb).blk _ (by omega)]; exact hzb); simp only [sS, hfy ys yt (Vec.cellsV y3) (Vec.cellsV y6), hst]; have hch : Chg H8.next Hb (Hb.put H8.next [.int .i64 0, ys, yt]) := Chg.put _ _ _; have hnp : (Hb.put H8.next [.int .i64 0, ys, yt]).next = Hb.next := rfl; exact ⟨ys, yt, yc, yd, H8.next, Vec.chg (Vec.ext y3 hxb) hch (by omega), Vec.chg y6 hch (by omega), D3 _ _ _, by omega, by omega, by omega, by omega, by omega, by omega, by omega, by omega, by omega, Chg.ext ((hz.trans hxa).trans hxb) hch (Nat.le_refl _), rfl⟩
     ·rintro e' H9 ⟨ys, yt, yc, yd, yp, v1, v2, v3, v4, v5, v6, v7, v8, v9, v10, v11, v12, hx9, rfl⟩; have hn9 := hx9.next; have hx09 : Ext H H9 := (hxr.trans hx8).trans hx9; have hbq := hvq H9 hx09; have hb9 : H9.blk px = some [.int .i64 0, xs, xt] := by rw [hx9.blk _ (by omega)]; exact hb8
      obtain ⟨r1, r2⟩ := C0.at (Vec.ext g1' hx9) (i := i) (by omega); obtain ⟨r3, _⟩ := C0.at v1 (i := i) (by omega); obtain ⟨cs, hst9, v1'⟩ := C0.put (lim := lim) v1 (by omega) (i := i) (by omega) (L.getD i 0 * 2 ^ t + (p : Int) * (U.getD i 0 - L.getD i 0)); rw [m1] at r2; rw [m2] at v1'; refine d6 (fun e' H' => H' = H9.put yc cs ∧ e' = [.pointer (some ⟨q, 0, none⟩), .int .i64 t, .slice none 0 0, .bool false, out, .int .i64 i, nx3, .pointer (some ⟨px, 0, none⟩), .int .i64 p, .pointer (some ⟨yp, 0, none⟩), undef, undef, undef, undef, .int .i64 n, .int .i64 i, out, .int .i64 es.length, .int .i64 m, .int .i64 (2 ^ t : Nat), .int .i64 p, undef, undef, undef]) ?_ ?_
      ·simp only [sS, Nat.zero_add, B7 v3, B7 hb9, r1, r2]
       repeat' (with_reducible apply And.intro)
       all_goals refine (B99 lim q i K bl bu L U H9 hbq hiL (by omega) sm1 sm2).eq ?_
       all_goals simp only [sS, B7 v3, B7 hb9, r1, r2, r3, wm1, wm2, hst9]
       all_goals (repeat' (with_reducible apply And.intro))
       all_goals first | exact trivial | rfl
      ·rintro e' H10 ⟨rfl, rfl⟩; have hch9 : Chg yc H9 (H9.put yc cs) := Chg.put _ _ _; have hx10 : Ext H8 (H9.put yc cs) := Chg.ext hx9 hch9 v4; have v3' : (H9.put yc cs).blk yp = some [.int .i64 0, ys, yt] := by rw [K5 _ _ (by omega)]; exact v3
       have v2' := Vec.chg v2 hch9 (by omega); have hnp9 : (H9.put yc cs).next = H9.next := rfl; generalize H9.put yc cs = H10 at hx10 v1' v2' v3' hnp9 ⊢; have hbq10 := hvq H10 (hxr.trans (hx8.trans hx10)); obtain ⟨w1, w2⟩ := C0.at v1' (i := i) (by rw [(C60 (t := t) hL hU (show i + 1 ≤ n by omega) (show (vv ++ [p]).length = i + 1 by simp [fv])).1]; omega); rw [m3] at w2; obtain ⟨w3, _⟩ := C0.at v2' (i := i) (by omega); obtain ⟨cs2, hst10, v2''⟩ := C0.put (lim := lim) v2' (by omega) (i := i) (by omega) (L.getD i 0 * 2 ^ t + (p : Int) * (U.getD i 0 - L.getD i 0) + (U.getD i 0 - L.getD i 0)); rw [m4] at v2''; refine d6 (fun e' H' => H' = H10.put yd cs2 ∧ e' = [.pointer (some ⟨q, 0, none⟩), .int .i64 t, .slice none 0 0, .bool false, out, .int .i64 i, nx3, .pointer (some ⟨px, 0, none⟩), .int .i64 p, .pointer (some ⟨yp, 0, none⟩), undef, undef, undef, undef, .int .i64 n, .int .i64 i, out, .int .i64 es.length, .int .i64 m, .int .i64 (2 ^ t : Nat), .int .i64 p, undef, undef, undef]) ?_ ?_
       ·simp only [sS, Nat.zero_add, B7 v3', w1, w2]
        repeat' (with_reducible apply And.intro)
        all_goals refine (B99 lim q i K bl bu L U H10 hbq10 hiL (by omega) sm1 sm2).eq ?_
        all_goals simp only [sS, B7 v3', w1, w2, w3, wm3, hst10]
        all_goals (repeat' (with_reducible apply And.intro))
        all_goals first | exact trivial | rfl
       ·rintro e' H11 ⟨rfl, rfl⟩; have hch10 : Chg yd H10 (H10.put yd cs2) := Chg.put _ _ _; have hx11 : Ext H8 (H10.put yd cs2) := Chg.ext hx10 hch10 v6; have v3'' : (H10.put yd cs2).blk yp = some [.int .i64 0, ys, yt] := by rw [K5 _ _ (by omega)]; exact v3'
        have v1'' := Vec.chg v1' hch10 (by omega); have hnp10 : (H10.put yd cs2).next = H10.next := rfl; generalize H10.put yd cs2 = H11 at hx11 v1'' v2'' v3'' hnp10 ⊢; have hlow := hG3.low; obtain ⟨nx4, H12, b4, e12, hG12, hx12, hk12, hn12, hb12⟩ := hG3.pushX (lim := lim) (H0 := Hr) (x := ⟨0, ys, yt, P3 t (i + 1) L U (vv ++ [p]), A0l t (i + 1) L U (vv ++ [p])⟩) (by omega) hx8 (Nat.le_refl _) (by omega) hx11 v1'' v2'' (by omega) (by omega) (by omega) (by omega) (by
         rcases hG3.st with hz | hz
         ·exact .inl hz
         ·right; omega) (by rw [List.length_append]; omega)
        have hbsl := A08 H11 ⟨0, ys, yt, P3 t (i + 1) L U (vv ++ [p]), A0l t (i + 1) L U (vv ++ [p])⟩ (Vec.cellsV v1'') (Vec.cellsV v2''); have hbsl' : E0 H11 1 [.int .i64 0, .slice none 0 0, .slice none 0 0] [(0, 3, .agg #[.int .i64 0, ys, yt])] = some (.slice (some ⟨H11.next, 0, some 0⟩) 1 1, H11.alloc (bxc ⟨0, ys, yt, P3 t (i + 1) L U (vv ++ [p]), A0l t (i + 1) L U (vv ++ [p])⟩)) := hbsl; refine A4 ?_; simp only [sS, E9 v3'', hbsl', e12]; simp +decide only [sQ]; refine A4 ?_; simp only [sS, D6 (i := p) (by omega)]; simp +decide only [sQ]; have hn11 := hx11.next; refine C6.mk (j3 - 1) (by omega) ⟨p + 1, es3 ++ [⟨0, ys, yt, P3 t (i + 1) L U (vv ++ [p]), A0l t (i + 1) L U (vv ++ [p])⟩], b4, nx4, _, _, by omega, by rw [← List.append_assoc]; exact hG12, ?_, hx12, ?_, ?_, by omega, rfl⟩
        ·rw [List.map_append, hD3, List.range_succ, List.map_append, List.map_append]; rfl
        ·rw [hk12 _ (by omega) hne8, hx11.blk _ hl8]; exact hb8
        ·rcases hb12 with rfl | h
         ·exact hne8
         ·omega
    ·have hp : p = 2 ^ t := by have := of_decide_eq_false hlt3; omega
     subst hp; refine B8 ?_; simp +decide only [sQ, reduceIte]; refine A4 ?_; simp only [sS, D6 (i := m) (by omega)]; simp +decide only [sQ]; refine C6.mk (j2 - 1) (by omega) ⟨m + 1, es2 ++ es3, bn3, nx3, _, _, _, _, _, by omega, hG3, ?_, hx8, rfl⟩; rw [List.map_append, hD2, hD3, hIt, List.flatMap_append, List.map_append]
     congr 1
     simp only [List.flatMap_cons, List.flatMap_nil, List.append_nil]
   ·have hm : m = es.length := by have := of_decide_eq_false hlt2; omega
    subst hm; refine B8 ?_; simp +decide only [sQ, reduceIte]; refine A4 ?_; simp only [sS]; simp +decide only [sQ]; refine A4 ?_; simp only [sS, D6 (i := i) (by omega)]; simp +decide only [sQ]; rw [List.take_of_length_le (by omega), ← hnext] at hD2; exact C6.mk (j - 1) (by omega) ⟨i + 1, es2, bn, nx, _, _, _, _, _, _, _, _, _, _, by omega, hG2.lower (by have := hG2.low; omega) (fun _ _ h => h), hD2, hxr.trans hx6, rfl⟩
  ·have hi : i = n := by have := of_decide_eq_false hlt; omega
   subst hi; refine B8 ?_; simp +decide only [sQ, reduceIte]; exact ⟨es, b, out, _, _, _, _, _, _, _, _, _, _, _, _, hG, hD, hxr, rfl⟩
 ·rintro e' Hs ⟨es, b, out, x5, x6, x7, x8, x9, x14, x15, x16, x17, x18, x19, x20, hG, hD, hxs, rfl⟩; obtain ⟨f1, f2⟩ := A3u ⟨n, by omega⟩ ⟨t, by omega⟩; simp only at f1 f2; have hlen : es.length = (n9 (2 ^ t) n).length := by have := congrArg List.length hD; simpa using this
  generalize n9 (2 ^ t) n = I at *
  have hwk : IntKind.i64.wrap ((K : Int) + t) = ((K + t : Nat) : Int) := by
   rw [show (K : Int) + (t : Int) = ((K + t : Nat) : Int) by omega]; exact J0 (by omega)
  refine A0 ?_; simp only [sS, hG.slb.lenV]; refine A8 ?_; refine B9 (fun j e' H' => ∃ (i : Nat) (ed : List BX) (x10 x11 x12 x13 : Value), i + j = es.length ∧ ed.length = es.length ∧ F3 H' H.next (H.next ≤ ·) b out ed ∧ ed.map dat = (I.take i).map (L4 K t L U) ++ (I.drop i).map (fun v => (0, P3 t n L U v, A0l t n L U v)) ∧ Ext H H' ∧ e' = [.pointer (some ⟨q, 0, none⟩), .int .i64 t, .slice none 0 0, .bool false, out, x5, x6, x7, x8, x9, x10, x11, x12, x13, x14, x15, x16, x17, x18, x19, x20, out, .int .i64 es.length, .int .i64 i]) es.length ⟨0, es, _, _, _, _, by omega, rfl, hG, by simpa using hD, hxs, rfl⟩ ?_; clear hG hxs hD; rintro j e' H1 ⟨i, ed, x10, x11, x12, x13, hij, hle, hG, hD, hx1, rfl⟩; have hn1 := hx1.next; refine A9 ?_; simp only [sS]; refine C4.split (fun hlt => ?_) (fun hlt => ?_)
  ·have hi : i < es.length := by have := of_decide_eq_true hlt; omega
   have hid : i < ed.length := by omega
   have hiI : i < I.length := by omega
   obtain ⟨o1, o2, u1, u2⟩ := hG.slb.at hid; have hdx : dat ed[i] = (0, P3 t n L U I[i], A0l t n L U I[i]) := by
    have h1 := A3s hD hid (by simp; omega); rw [h1, List.getElem_append_right (by simp; omega)]; simp [Nat.min_eq_left (Nat.le_of_lt hiI)]
   obtain ⟨fv, fi⟩ := f2 _ (List.getElem_mem hiI); obtain ⟨c, d, g1, g2, g3, g4, g5, g6, g7, g8⟩ := hG.el _ (List.getElem_mem hid); have hDn : ∀ y : BX, dat y = L4 K t L U I[i] → (ed.set i y).map dat = (I.take (i + 1)).map (L4 K t L U) ++ (I.drop (i + 1)).map (fun v => (0, P3 t n L U v, A0l t n L U v)) := by
    intro y hy; rw [List.map_set, hD, hy, List.take_succ_eq_append_getElem hiI, List.drop_eq_getElem_cons hiI, List.map_append, List.map_cons]; simp only [List.map_cons, List.map_nil]; rw [List.append_assoc]; have hl1 : ((I.take i).map (L4 K t L U)).length = i := by simp; omega
    rw [List.set_append_right _ _ (by omega), hl1, Nat.sub_self]; rfl
   generalize I[i] = vv at *
   have hbx := B0n (K := K) (t := t) (v := vv) hL hU (by omega) (by omega) (by omega) (by rw [← hr]) fv fi; have eml : P3 t n L U vv = N7 t L U vv := by
    unfold P3; rw [List.take_of_length_le (by omega), List.take_of_length_le (by omega), List.drop_of_length_le (by omega)]; simp [j9]
   have emh : A0l t n L U vv = K7 t L U vv := by
    unfold A0l; rw [List.take_of_length_le (by omega), List.take_of_length_le (by omega), List.drop_of_length_le (by omega)]; simp [j9]
   have l1 := M2 t L U vv (by omega) (by omega); have l2 := L0 t L U vv (by omega) (by omega); obtain ⟨ir1, ir2⟩ := D1h (B42 hr fi) (by omega) (by
    have := I7 K; exact Int.mul_nonneg (by omega) (by omega)) (by
    have h1 : K ≤ 4 := by omega
    rw [← C6x]; have h2 := A38 (show K + t ≤ 6 by omega); omega)
   have hG0 := hG; generalize ed[i] = x at *
   obtain ⟨xk, xs, xt, xlo, xhi⟩ := x; simp only [dat, Prod.mk.injEq] at hdx; obtain ⟨rfl, rfl, rfl⟩ := hdx; simp only at g1 g2; rw [eml] at g1; rw [emh] at g2; refine A2 ?_; simp +decide only [sQ]; refine A8 ?_; refine A0 ?_; have hst : C8 lim (H1.alloc [.int .i64 0, .slice none 0 0, .slice none 0 0]) 3 (.pointer (some ⟨H1.next, 0, none⟩)) (bxv ⟨0, xs, xt, P3 t n L U vv, A0l t n L U vv⟩) = some (undef, H1.alloc [.int .i64 0, xs, xt]) := E7 (by omega); simp only [sS, u1, u2 H1 (Ext.refl _), hst]; have hx2 := Ext.alloc H1 [.int .i64 0, xs, xt]; have hb2 : (H1.alloc [.int .i64 0, xs, xt]).blk H1.next = some [.int .i64 0, xs, xt] := A6 _ _; have hl2 : (H1.alloc [.int .i64 0, xs, xt]).next = H1.next + 1 := rfl; generalize H1.alloc [.int .i64 0, xs, xt] = H2 at hx2 hb2 hl2 ⊢; have hbq := hvq H2 (hx1.trans hx2); have hb2q := hbq.blk; have hmk : G9 (K + t) (N7 t L U vv) (K7 t L U vv) = (true, L4 K t L U vv) := by
    unfold G9; exact Prod.ext hbx.1 rfl
   refine d6 (fun e' H' => ∃ (ys yt : Value) (yc yd yp : Nat), C0 H' yc ys (L4 K t L U vv).2.1 ∧ C0 H' yd yt (L4 K t L U vv).2.2 ∧ H'.blk yp = some [.int .i64 ((L4 K t L U vv).1 : Nat), ys, yt] ∧ H1.next ≤ yc ∧ yc < H'.next ∧ H1.next ≤ yd ∧ yd < H'.next ∧ Ext H1 H' ∧ e' = [.pointer (some ⟨q, 0, none⟩), .int .i64 t, .slice none 0 0, .bool false, out, x5, x6, x7, x8, x9, .int .i64 i, .pointer (some ⟨H1.next, 0, none⟩), .pointer (some ⟨yp, 0, none⟩), .bool true, x14, x15, x16, x17, x18, x19, x20, out, .int .i64 es.length, .int .i64 i]) ?_ ?_
   ·simp only [sS, Nat.zero_add, B7 hb2q, B7 hb2, hwk]; have hn2 := hx2.next; have hcall : ∀ G : A1, Ext H2 G → A5 Tryz.prog lim B1n [.int .i64 (K + t : Nat), xs, xt] G fun v H' => (∃ ys yt yc yd, v = .tuple #[.agg #[.int .i64 ((L4 K t L U vv).1 : Nat), ys, yt], .bool true] ∧ C0 H' yc ys (L4 K t L U vv).2.1 ∧ C0 H' yd yt (L4 K t L U vv).2.2 ∧ G.next ≤ yc ∧ yc < H'.next ∧ G.next ≤ yd ∧ yd < H'.next) ∧ Ext G H' := by
     intro G hG; have hnG := hG.next; refine (C8r lim (K + t) xs xt (N7 t L U vv) (K7 t L U vv) G (by omega) (Vec.sl (Vec.ext g1 (hx2.trans hG))) (Vec.sl (Vec.ext g2 (hx2.trans hG))) (by omega) (by omega) (by omega) (by omega) ir1 ir2).mono ?_; rw [hmk]; rintro v H' ⟨h, hxg⟩; refine ⟨?_, hxg⟩; rcases h with ⟨h, _⟩ | ⟨_, ys, yt, yc, yd, rfl, e1, e2, e3, e4, e5⟩
     ·cases h
     ·have lb1 : (L4 K t L U vv).2.1.length = n := hbx.2; have lb2 : (L4 K t L U vv).2.2.length = n := by rw [show (L4 K t L U vv).2.2.length = (K7 t L U vv).length from ((V1 (K + t) (N7 t L U vv) (K7 t L U vv) (by omega)).2).trans (by omega)]; omega
      have e4 : C0 H' yc ys (L4 K t L U vv).2.1 := e4; have e5 : C0 H' yd yt (L4 K t L U vv).2.2 := e5; exact ⟨ys, yt, yc, yd, rfl, e4, e5, by omega, (Vec.blk e4 (by omega)).elim fun _ h => h.2, by omega, (Vec.blk e5 (by omega)).elim fun _ h => h.2⟩
    refine ⟨?_, ?_⟩
    ·refine (hcall H2 (Ext.refl _)).mono ?_; rintro _ H3 ⟨⟨ys, yt, yc, yd, rfl, e1, e2, e3, e4, e5, e6⟩, hx3⟩; have hn3 := hx3.next; have hst : C8 lim (H3.alloc [.int .i64 0, .slice none 0 0, .slice none 0 0]) 3 (.pointer (some ⟨H3.next, 0, none⟩)) (.agg #[.int .i64 ((L4 K t L U vv).1 : Nat), ys, yt]) = some (undef, H3.alloc [.int .i64 ((L4 K t L U vv).1 : Nat), ys, yt]) := E7 (by omega); simp only [sS, hst]; have hx4 := Ext.alloc H3 [.int .i64 ((L4 K t L U vv).1 : Nat), ys, yt]; have hn4 : (H3.alloc [.int .i64 ((L4 K t L U vv).1 : Nat), ys, yt]).next = H3.next + 1 := rfl; exact ⟨ys, yt, yc, yd, H3.next, Vec.ext e1 hx4, Vec.ext e2 hx4, A6 _ _, by omega, by omega, by omega, by omega, (hx2.trans hx3).trans hx4, rfl⟩
    ·have hxz := Ext.alloc H2 [.int .i64 0, .slice none 0 0, .slice none 0 0]; have hzb : (H2.alloc [.int .i64 0, .slice none 0 0, .slice none 0 0]).blk H2.next = some [.int .i64 0, .slice none 0 0, .slice none 0 0] := A6 _ _; have hzn : (H2.alloc [.int .i64 0, .slice none 0 0, .slice none 0 0]).next = H2.next + 1 := rfl; generalize H2.alloc [.int .i64 0, .slice none 0 0, .slice none 0 0] = Hz at hxz hzb hzn ⊢; refine (hcall Hz hxz).mono ?_; rintro _ H3 ⟨⟨ys, yt, yc, yd, rfl, e1, e2, e3, e4, e5, e6⟩, hx3⟩; have hn3 := hx3.next; have hst : C8 lim H3 3 (.pointer (some ⟨H2.next, 0, none⟩)) (.agg #[.int .i64 ((L4 K t L U vv).1 : Nat), ys, yt]) = some (undef, H3.put H2.next [.int .i64 ((L4 K t L U vv).1 : Nat), ys, yt]) := L5 (by omega) (by rw [hx3.blk _ (by omega)]; exact hzb); simp only [sS, hst]; have hch : Chg H2.next H3 (H3.put H2.next [.int .i64 ((L4 K t L U vv).1 : Nat), ys, yt]) := Chg.put _ _ _; have hnp : (H3.put H2.next [.int .i64 ((L4 K t L U vv).1 : Nat), ys, yt]).next = H3.next := rfl; exact ⟨ys, yt, yc, yd, H2.next, Vec.chg e1 hch (by omega), Vec.chg e2 hch (by omega), D3 _ _ _, by omega, by omega, by omega, by omega, Chg.ext ((hx2.trans hxz).trans hx3) hch (by omega), rfl⟩
   ·rintro e' H3 ⟨ys, yt, yc, yd, yp, v1, v2, v3, v4, v5, v6, v7, hx3, rfl⟩; have hn3 := hx3.next; have hG3 := hG.ext hx3; have hbn : b < H1.next := by
     rcases hG.st with ⟨_, h⟩ | h
     ·subst h; simp at hid
     ·exact h
    obtain ⟨s1, cs, s2, s3⟩ := hG3.set (lim := lim) hl hid (y := ⟨(L4 K t L U vv).1, ys, yt, (L4 K t L U vv).2.1, (L4 K t L U vv).2.2⟩) v1 v2 (by omega) v5 (by omega) v7 (by omega) (by omega); have hlow := hG.low; simp only [bxv] at s2; refine A9 ?_; simp only [sS]; refine C4.false_ (A2 ?_); simp +decide only [sQ]; refine A4 ?_; simp only [sS, E9 v3, s1, s2]; simp +decide only [sQ]; refine A4 ?_; simp only [sS, D6 (i := i) (by omega)]; simp +decide only [sQ]; exact C6.mk (j - 1) (by omega) ⟨i + 1, _, _, _, _, _, by omega, by rw [List.length_set]; exact hle, s3, hDn _ rfl, Chg.ext (hx1.trans hx3) (Chg.put _ _ _) hlow, rfl⟩
  ·have hi : i = es.length := by have := of_decide_eq_false hlt; omega
   subst hi; refine B8 ?_; simp +decide only [sQ, reduceIte]; refine A0 ?_; simp only [sS]; refine A3 ?_; simp +decide only [sQ]; rw [List.take_of_length_le (by omega), List.drop_of_length_le (by omega), List.map_nil, List.append_nil] at hD; exact ⟨⟨out, ed, b, rfl, hD, hG⟩, hx1⟩
end Go.Proofs.YtmdeppkfboaepaaGreat
namespace Go.Proofs.YtmdeppkfboaepaaGreat
open Go.Ab Ints
structure B0g (H : A1) (q qo : Nat) (k : Int) (s t : Value) (low high : List Int) : Prop where
 c0 : H.cell q qo = some (.int .i64 k)
 c1 : H.cell q (qo + 1) = some s
 c2 : H.cell q (qo + 2) = some t
 low : SlI H s low
 high : SlI H t high
theorem B0g.ext {H H' : A1} {q qo : Nat} {k : Int} {s t : Value} {low high : List Int} (h : B0g H q qo k s t low high) (hq : q < H.next) (hx : Ext H H') : B0g H' q qo k s t low high := by
 have e := hx.blk _ hq; obtain ⟨h1, h2, h3, h4, h5⟩ := h; simp only [A1.cell] at h1 h2 h3; exact ⟨by simp only [A1.cell, e]; exact h1, by simp only [A1.cell, e]; exact h2, by simp only [A1.cell, e]; exact h3, SlI.ext h4 hx, SlI.ext h5 hx⟩
theorem B06 (lim : Nat) (s bl bu : Value) (p : List Tm) (L U : List Int) (k n side q : Nat) {qo : Nat} (up : Bool) (H : A1) (hl : lim ≤ H.next) (hs : SlT H s p) (hv : B0g H q qo k bl bu L U) (hq : q < H.next) (hc : Crs k n L U) (hp : I1 p = true) (hf : I9 n p = true) (hside : side < n) :
 A5 Tryz.prog lim A4v [s, .pointer (some ⟨q, qo, none⟩), .int .i64 side, .bool up] H fun v H' => v = .int .i64 (fcS k p L U side up) ∧ Ext H H' := by
 have hLn := hc.hL; have hUn := hc.hU; have hn3 := hc.n3; have hn1 := hc.n1; refine A2w.go rfl ?_; unfold s5; refine A0 ?_; simp only [J4, T1, POp.ev, Opd.ev, A7p, gu, I8, List.set, Option.some.injEq, exists_eq_left']; refine A0 ?_; simp only [J4, C1i, POp.ev, Opd.ev, gv, I8, List.map, Option.some.injEq, exists_eq_left', F5, F6, Z1, hv.c1, hv.c2]; refine (Ints.N3 _ bl L H (Nat.le_refl _) hv.low (by omega)).use ?_; rintro lo H2 ⟨b, hb1, hb2, hlo, hx2⟩ _; simp only [s7, X5, Opd.ev, gv, I8, List.map]; refine (Ints.N3 lim bu U H2 (by have := hx2.next; omega) (SlI.ext hv.high hx2) (by omega)).mono ?_; rintro hi H3 ⟨c, hc1, hc2, hhi, hx3⟩; have hnx2 := hx2.next; have hnx3 := hx3.next; have hbl : b < H2.next := (Vec.blk hlo (by omega)).elim fun _ h => h.2
 have hcl : c < H3.next := (Vec.blk hhi (by omega)).elim fun _ h => h.2
 have hlo3 := Vec.ext hlo hx3; have hx03 := hx2.trans hx3; have hq3 := hv.ext hq hx03; simp only [s7, J4, T1, POp.ev, Opd.ev, gv, I8, List.set, Option.some.injEq, exists_eq_left']; refine N9 (fun e' H' => C0 H' b lo (R8 L U side up) ∧ C0 H' c hi (U4 L U side up) ∧ Ext H H' ∧ e' = [s, .pointer (some ⟨q, qo, none⟩), .int .i64 side, .bool up, .int .i64 0, lo, hi]) ?_ ?_
 ·refine E1 ?_; simp only [J4, T1, POp.ev, Opd.ev, gv, I8, Option.some.injEq, exists_eq_left']; cases up
  ·refine C4.false_ ?_; obtain ⟨q1, q2⟩ := C0.at hlo3 (i := side) (by omega); obtain ⟨w1, _⟩ := C0.at hhi (i := side) (by omega); obtain ⟨cs, hst, hhi4⟩ := C0.put (lim := lim) hhi (by omega) (i := side) (by omega) (L.getD side 0); have hch : Chg c H3 (H3.put c cs) := Chg.put _ _ _; refine A4 ?_; simp only [J4, C39, T1, POp.ev, Opd.ev, EOp.ev, gv, I8, Option.some.injEq, exists_eq_left', F5, q1, q2, w1, hst]; simp +decide only [N5]; exact ⟨Vec.chg hlo3 hch (by omega), hhi4, Chg.ext hx03 hch (by omega), trivial⟩
  ·refine C4.true_ ?_; obtain ⟨q1, q2⟩ := C0.at hhi (i := side) (by omega); obtain ⟨w1, _⟩ := C0.at hlo3 (i := side) (by omega); obtain ⟨cs, hst, hlo4⟩ := C0.put (lim := lim) hlo3 (by omega) (i := side) (by omega) (U.getD side 0); have hch : Chg b H3 (H3.put b cs) := Chg.put _ _ _; refine A4 ?_; simp only [J4, C39, T1, POp.ev, Opd.ev, EOp.ev, gv, I8, Option.some.injEq, exists_eq_left', F5, q1, q2, w1, hst]; simp +decide only [N5]; exact ⟨hlo4, Vec.chg hhi hch (by omega), Chg.ext hx03 hch (by omega), trivial⟩
 ·rintro e' H4 ⟨g1, g2, g3, rfl⟩; have hfc := hc.face hside up; have hn4 := g3.next; refine A0 ?_; simp only [J4, X5, POp.ev, Opd.ev, gv, I8, List.map, Option.some.injEq, exists_eq_left', F5, F6, Z1, Nat.add_zero, (hv.ext hq g3).c0]; refine (B0z lim s lo hi p _ _ k n H4 (by omega) (hs.ext g3) (Vec.sl g1) (Vec.sl g2) hp hc.hk hn3 hfc.hL hfc.hU).mono ?_; rintro a H5 ⟨b5, ha, hx5⟩; have hne : ((C5 ((axN p (R8 L U side up) (U4 L U side up) n).map (·.d))).map fun is => wr (Q5 (M6 n k p) (axN p (R8 L U side up) (U4 L U side up) n) is)) ≠ [] := by
   intro h; exact B7m _ (List.map_eq_nil_iff.1 h)
  have hlen : ((C5 ((axN p (R8 L U side up) (U4 L U side up) n).map (·.d))).map fun is => wr (Q5 (M6 n k p) (axN p (R8 L U side up) (U4 L U side up) n) is)).length ≤ 1000000 := by
   obtain ⟨gg1, _, _⟩ := A09 hp; have hd := B23 (p := p) fun t ht => (gg1 t ht).2
   rw [List.length_map, C0h]; have h1 := R9 (ms := (List.range n).map (dgI p)) fun m hm => by
    obtain ⟨j, _, rfl⟩ := List.mem_map.1 hm; exact hd j
   have h2 : (5 : Nat) ^ ((List.range n).map (dgI p)).length ≤ 5 ^ 3 := Nat.pow_le_pow_right (by decide) (by simp; omega); omega
  simp only [s7, X5, Opd.ev, gv, I8, List.map]; refine (A7y lim a _ H5 (Vec.sl ha) hne hlen).eq ?_; rw [A8i hfc hp hf]; simp only [s7, J4, T1, POp.ev, Opd.ev, gv, I8, List.set, Option.some.injEq, exists_eq_left']; refine A3 ?_; simp +decide only [W7, A1q, R7, gv, Option.some.injEq, exists_eq_left']; exact ⟨rfl, g3.trans hx5⟩
theorem B5n (lim : Nat) (s bl bu : Value) (p : List Tm) (L U : List Int) (k n side q : Nat) {qo : Nat} (H : A1) (hl : lim ≤ H.next) (hs : SlT H s p) (hv : B0g H q qo k bl bu L U) (hq : q < H.next) (hc : Crs k n L U) (hp : I1 p = true) (hf : I9 n p = true) (hside : side < n) :
 A5 Tryz.prog lim A2e [s, .pointer (some ⟨q, qo, none⟩), .int .i64 side] H fun v H' => v = .bool (B2r k p L U side) ∧ Ext H H' := by
 refine A01.go rfl ?_; unfold X3; refine A0 ?_; simp only [J4, T1, POp.ev, Opd.ev, A7p, gu, I8, List.set, Option.some.injEq, exists_eq_left']; refine A0 ?_; simp only [J4, X5, POp.ev, Opd.ev, gv, I8, List.map, Option.some.injEq, exists_eq_left']; refine (B06 lim s bl bu p L U k n side q false H hl hs hv hq hc hp hf hside).mono ?_; rintro _ H2 ⟨rfl, hx2⟩; have hn2 := hx2.next; simp only [s7, J4, X5, POp.ev, Opd.ev, gv, I8, List.map, Option.some.injEq, exists_eq_left']; refine (B06 lim s bl bu p L U k n side q true H2 (by omega) (hs.ext hx2) (hv.ext hq hx2) (by omega) hc hp hf hside).mono ?_; rintro _ H3 ⟨rfl, hx3⟩; simp only [s7, J4, T1, POp.ev, Opd.ev, gv, I8, List.set, Option.some.injEq, exists_eq_left', J9, ne_eq, not_true_eq_false, if_false, B00]; refine A3 ?_; simp +decide only [W7, A1q, R7, gv, Option.some.injEq, exists_eq_left']; exact ⟨rfl, hx2.trans hx3⟩
theorem B0j (lim : Nat) (s bl bu o : Value) (ss : List (List Tm)) (L U order : List Int) (k n q : Nat) {qo : Nat} (H : A1) (hl : lim ≤ H.next) (hs : l3 H s ss) (hv : B0g H q qo k bl bu L U) (hq : q < H.next) (ho : SlI H o order) (hc : Crs k n L U) (hp : ∀ p ∈ ss, I1 p = true ∧ I9 n p = true) (hn : ss.length = n) (hon : order.length = n) (hin : ∀ x ∈ order, 0 ≤ x ∧ x ≤ (n : Int) - 1) :
 A5 Tryz.prog lim A6e [s, .pointer (some ⟨q, qo, none⟩), o] H fun v H' => v = .bool (R4 k ss L U order) ∧ Ext H H' := by
 have hn3 := hc.n3; refine A5c.go rfl ?_; unfold l8; refine A0 ?_; simp only [J4, T1, POp.ev, Opd.ev, A7p, gu, I8, List.set, Option.some.injEq, exists_eq_left']; refine C7 (A0 ?_); simp only [J4, T1, POp.ev, Opd.ev, gv, I8, List.set, Option.some.injEq, exists_eq_left', ho.lenV]; refine A7 ?_; refine B9 (fun j e' H' => ∃ (i : Nat) (x5 x6 : Value), i + j = order.length ∧ R4 k ss L U order = ((List.range order.length).drop i).all (fun side => B2r k (ss.getD (order.getD side 0).toNat []) L U side) ∧ Ext H H' ∧ e' = [s, .pointer (some ⟨q, qo, none⟩), o, .bool false, x5, x6, o, .int .i64 order.length, .int .i64 i]) order.length ⟨0, _, _, by omega, rfl, Ext.refl _, rfl⟩ ?_; rintro j e' H2 ⟨i, x5, x6, hij, hall, hx2, rfl⟩; have hn2 := hx2.next; refine A9 ?_; simp only [J4, T1, POp.ev, Opd.ev, gv, I8, Option.some.injEq, exists_eq_left', J9, ne_eq, not_true_eq_false, if_false]; refine C4.split (fun hlt => ?_) (fun hlt => ?_)
 ·have hlt' : i < order.length := by simpa using hlt
  obtain ⟨b1, o1, u1, _, u2⟩ := SlI.get (SlI.ext ho hx2) hlt'; have hg : order.getD i 0 = order[i] := by simp [hlt']
  obtain ⟨r1, r2⟩ := hin _ (List.getElem_mem hlt'); obtain ⟨m, hm⟩ : ∃ m : Nat, order[i] = m := ⟨order[i].toNat, by omega⟩; have hml : m < ss.length := by omega
  obtain ⟨b2, o2, s1, w1, w2, w3⟩ := (hs.ext hx2).at hml; rw [List.drop_eq_getElem_cons (by simpa using hlt'), List.all_cons, List.getElem_range, hg, hm, Int.toNat_natCast, show ss.getD m [] = ss[m] from by simp [hml]] at hall; rw [hm] at u2; obtain ⟨pp1, pp2⟩ := hp _ (List.getElem_mem hml); refine A2 ?_; simp +decide only [N5]; refine A8 ?_; refine A0 ?_; simp only [J4, T1, POp.ev, Opd.ev, gv, I8, List.set, Option.some.injEq, exists_eq_left', F5, u1, u2]; refine E1 ?_; simp only [J4, X5, POp.ev, Opd.ev, gv, I8, List.map, Option.some.injEq, exists_eq_left', F5, w1, w2]; refine (B5n lim s1 bl bu ss[m] L U k n i q H2 (by omega) w3 (hv.ext hq hx2) (by omega) hc pp1 pp2 (by omega)).mono ?_; rintro _ H3 ⟨rfl, hx3⟩; simp only [s7, J4, T1, POp.ev, Opd.ev, gv, I8, Option.some.injEq, exists_eq_left', unV]; refine C4.split (fun hb => ?_) (fun hb => ?_)
  ·refine A0 ?_; simp only [J4, T1, POp.ev, Opd.ev, I8, List.set, Option.some.injEq, exists_eq_left']; refine A3 ?_; simp +decide only [B2c, A5n, W7, A1q, R7, gv, Option.some.injEq, exists_eq_left']; simp only [Bool.not_eq_true'] at hb; rw [hb, Bool.false_and] at hall; rw [hall]; exact ⟨rfl, hx2.trans hx3⟩
  ·refine A2 ?_; simp +decide only [N5, A02]; refine A4 ?_; simp only [J4, T1, POp.ev, Opd.ev, gv, I8, List.set, Option.some.injEq, exists_eq_left', J9, ne_eq, not_true_eq_false, if_false, D6 (i := i) (by omega)]; simp +decide only [N5]; simp only [Bool.not_eq_false'] at hb; rw [hb, Bool.true_and] at hall; exact C6.mk (j - 1) (by omega) ⟨i + 1, _, _, by omega, hall, hx2.trans hx3, rfl⟩
 ·have hge : i = order.length := by simp at hlt; omega
  subst hge; refine B8 ?_; simp +decide only [N5, A9l, A35, reduceIte]; refine A0 ?_; simp only [J4, T1, POp.ev, Opd.ev, I8, List.set, Option.some.injEq, exists_eq_left']; refine A3 ?_; simp +decide only [W7, A1q, R7, gv, Option.some.injEq, exists_eq_left']; rw [List.drop_of_length_le (by simp)] at hall; rw [hall]; exact ⟨rfl, hx2⟩
theorem C2z (lim : Nat) (s bl bu o : Value) (ss : List (List Tm)) (L U order : List Int) (k n q p2 p3 : Nat) {qo : Nat} (H : A1) (hl : lim ≤ H.next) (hs : l3 H s ss) (hv : B0g H q qo k bl bu L U) (hq : q < H.next) (ho : SlI H o order) (hc : Crs k n L U) (hp : ∀ p ∈ ss, I1 p = true ∧ I9 n p = true) (hn : ss.length = n) (hon : order.length = n) (hin : ∀ x ∈ order, 0 ≤ x ∧ x ≤ (n : Int) - 1)
 (h2 : H.blk p2 = some [s]) (h3 : H.blk p3 = some [.pointer (some ⟨q, qo, none⟩)]) :
 A5 Tryz.prog lim X1 [o, .pointer (some ⟨p2, 0, none⟩), .pointer (some ⟨p3, 0, none⟩)] H fun v H' => v = .bool (!R4 k ss L U order) ∧ Ext H H' := by
 refine A3k.go rfl ?_; unfold X9; refine A0 ?_; simp only [J4, T1, POp.ev, Opd.ev, A7p, gu, I8, List.set, Option.some.injEq, exists_eq_left']; refine A0 ?_; have c2 : H.cell p2 0 = some s := B7 h2 0; have c3 : H.cell p3 0 = some (.pointer (some ⟨q, qo, none⟩)) := B7 h3 0; simp only [J4, X5, POp.ev, Opd.ev, gv, I8, List.map, Option.some.injEq, exists_eq_left', F5, c2, c3]; refine (B0j lim s bl bu o ss L U order k n q H hl hs hv hq ho hc hp hn hon hin).mono ?_; rintro _ H' ⟨rfl, hx⟩; simp only [s7, J4, T1, POp.ev, Opd.ev, gv, I8, List.set, Option.some.injEq, exists_eq_left', unV]; refine A3 ?_; simp +decide only [W7, A1q, R7, gv, Option.some.injEq, exists_eq_left']; exact ⟨trivial, hx⟩
theorem B1p (lim : Nat) (s bl bu : Value) (ss : List (List Tm)) (L U : List Int) (k n q : Nat) {qo : Nat} (H : A1) (hl : lim ≤ H.next) (hs : l3 H s ss) (hv : B0g H q qo k bl bu L U) (hq : q < H.next) (hc : Crs k n L U) (hp : ∀ p ∈ ss, I1 p = true ∧ I9 n p = true) (hn : ss.length = n) :
 A5 Tryz.prog lim o9 [s, .pointer (some ⟨q, qo, none⟩)] H fun v H' => A26 H' H.next H'.next v ((A6u k ss L U n).map zl) ∧ Ext H H' := by
 have hn3 := hc.n3; have hn1 := hc.n1; refine A5f.go rfl ?_; unfold n7; have hcv : C2 s = some [s] := by
  obtain ⟨vs, h1, _⟩ := hs; exact h1.cellsV
 have hcp : C2 (.pointer (some ⟨q, qo, none⟩)) = some [.pointer (some ⟨q, qo, none⟩)] := rfl; refine A0 ?_; simp only [J4, C39, T1, POp.ev, Opd.ev, EOp.ev, A7p, gu, gv, I8, List.set, Option.map_some, Option.some.injEq, exists_eq_left', M5, hcv, hcp]; have hx1 : Ext H ((H.alloc [s]).alloc [.pointer (some ⟨q, qo, none⟩)]) := (Ext.alloc _ _).trans (Ext.alloc _ _); have hp3 : ((H.alloc [s]).alloc [.pointer (some ⟨q, qo, none⟩)]).blk (H.next + 1) = some [.pointer (some ⟨q, qo, none⟩)] := A6 (H.alloc [s]) _; have hp2 : ((H.alloc [s]).alloc [.pointer (some ⟨q, qo, none⟩)]).blk H.next = some [s] := by
  rw [A0p _ _ (Nat.lt_succ_self _)]; exact A6 _ _
 have hnx : ((H.alloc [s]).alloc [.pointer (some ⟨q, qo, none⟩)]).next = H.next + 2 := rfl; have hna : (H.alloc [s]).next = H.next + 1 := rfl; rw [hna]; generalize (H.alloc [s]).alloc [.pointer (some ⟨q, qo, none⟩)] = H1 at hx1 hp3 hp2 hnx ⊢; have c2 : H1.cell H.next 0 = some s := B7 hp2 0; refine A0 ?_; simp only [J4, X5, POp.ev, Opd.ev, gv, I8, List.map, Option.some.injEq, exists_eq_left', F5, c2, hs.lenV]; rw [hn]; refine (C33 lim n H1 (by omega) hn1 hn3).mono ?_; rintro pv H2 ⟨hw, hx2⟩; have hnx2 := hx2.next; have hne : L1 n ≠ [] := by
  have : ∀ m : Fin 4, L1 m.val ≠ [] := by decide
  exact this ⟨n, by omega⟩
 rcases hw with ⟨_, h0⟩ | ⟨b, vs, bs, hP⟩
 ·exact absurd (List.map_eq_nil_iff.1 h0) hne
 have hoi := C53 ⟨n, by omega⟩; have hol := B73 ⟨n, by omega⟩; simp only at hoi hol; have hbr := hP.rng; have hvl : vs.length = (L1 n).length := by
  have := hP.vec.clen; rw [List.length_map, Nat.mul_one] at this; exact this
 simp only [s7, J4, X5, POp.ev, Opd.ev, gv, I8, List.map, Option.some.injEq, exists_eq_left']; have hfl : ((List.range (L1 n).length).map fun i => (vs.getD i undef, !R4 k ss L U (zl ((L1 n).getD i [])))).map (·.1) = vs := by
  rw [List.map_map]; have := B66 vs undef; rw [hvl] at this; exact this.symm
 generalize hFL : ((List.range (L1 n).length).map fun i => (vs.getD i undef, !R4 k ss L U (zl ((L1 n).getD i [])))) = FL at hfl; have hFLl : FL.length = (L1 n).length := by rw [← hFL]; simp
 have hmem : ∀ x ∈ FL, ∃ i, i < (L1 n).length ∧ x = (vs.getD i undef, !R4 k ss L U (zl ((L1 n).getD i []))) := by
  intro x hx; rw [← hFL] at hx; obtain ⟨i, hi, rfl⟩ := List.mem_map.1 hx; exact ⟨i, List.mem_range.1 hi, rfl⟩
 have hel : ∀ i (hi : i < (L1 n).length), ∃ sv c, vs.getD i undef = sv ∧ c ≠ b ∧ C0 H2 c sv (zl ((L1 n).getD i [])) := by
  intro i hi; obtain ⟨sv, c, g1, g2, g3⟩ := hP.el i (zl ((L1 n).getD i [])) (by rw [List.getElem?_map, List.getElem?_eq_getElem hi]; simp [hi]); refine ⟨sv, c, ?_, fun e => hP.nin (e ▸ List.mem_of_getElem? g2), g3⟩; rw [List.getD_eq_getElem?_getD, g1]; rfl
 have hT : C9o lim b H2 (.func (.func X1) #[] #[.pointer (some ⟨H.next, 0, none⟩), .pointer (some ⟨H.next + 1, 0, none⟩)]) FL := by
  intro x hx G R hg hr; obtain ⟨i, hi, rfl⟩ := hmem x hx; obtain ⟨sv, c, e1, e2, e3⟩ := hel i hi; have hxG : Ext H1 G := Chg.ext hx2 hg (by omega); have hxG0 := hx1.trans hxG; have hngG := hxG.next; have hgd : (L1 n).getD i [] = (L1 n)[i] := by simp [hi]
  obtain ⟨q1, q2⟩ := hoi _ (List.getElem_mem hi); rw [C8d]; refine (C2z lim s bl bu sv ss L U (zl ((L1 n).getD i [])) k n q H.next (H.next + 1) G (by omega) (hs.ext hxG0) (hv.ext hq hxG0) (by omega) (Vec.sl (Vec.chg e3 hg e2)) hc hp hn (by rw [F4, hgd]; exact q1) (by
   intro x hxm; rw [hgd] at hxm; obtain ⟨y, hy, rfl⟩ := List.mem_map.1 hxm; have := q2 y hy; omega) (by rw [hxG.blk _ (by omega)]; exact hp2) (by rw [hxG.blk _ (by omega)]; exact hp3) |> fun h => ?_)
  simp only [e1]; refine h.mono ?_; rintro _ G' ⟨rfl, hx'⟩; exact hr G' hx'
 refine (C4s lim b pv _ FL H2 (by rw [hFLl, hfl]; have := hP.vec; rw [List.length_map] at this; exact this) ?_ hT (by omega) (by omega)).mono ?_
 ·intro x hx; obtain ⟨i, hi, rfl⟩ := hmem x hx; obtain ⟨sv, c, e1, e2, e3⟩ := hel i hi; simp only [e1]; exact Vec.cellsV e3
 rintro v H3 ⟨hv3, hc3⟩; have hidx : B0c FL = ((List.range (L1 n).length).filter fun i => R4 k ss L U (zl ((L1 n).getD i []))).map fun i => (vs.getD i undef, !R4 k ss L U (zl ((L1 n).getD i []))) := by
  rw [← hFL]; unfold B0c; rw [List.filter_map]
  congr 1
  refine List.filter_congr fun i _ => ?_
  simp
 have hpass : (A6u k ss L U n).map zl = ((List.range (L1 n).length).filter fun i => R4 k ss L U (zl ((L1 n).getD i []))).map fun i => ((L1 n).map zl).getD i [] := by
  unfold A6u; have e := B66 (L1 n) []
  conv => lhs; rw [e]
  rw [List.filter_map, List.map_map]; refine List.map_congr_left fun i hi => ?_
  have hi' := List.mem_range.1 (List.mem_filter.1 hi).1; simp [Function.comp, hi']
 have hk := hP.sub (H' := H3) (v' := v) (idx := (List.range (L1 n).length).filter fun i => R4 k ss L U (zl ((L1 n).getD i []))) (List.nodup_range.filter _) (fun i hi => by rw [List.length_map]; exact List.mem_range.1 (List.mem_filter.1 hi).1) (by
  rw [hidx, List.length_map, List.map_map] at hv3; exact hv3) hc3
 rw [← hpass] at hk; have hnx3 := hc3.next; simp only [s7, J4, T1, POp.ev, Opd.ev, gv, I8, List.set, Option.some.injEq, exists_eq_left']; refine A3 ?_; simp +decide only [W7, A1q, R7, gv, Option.some.injEq, exists_eq_left']; exact ⟨A26.wide (.inr ⟨_, _, _, hk⟩) (by omega) hnx3, Chg.ext (hx1.trans hx2) hc3 (by omega)⟩
end Go.Proofs.YtmdeppkfboaepaaGreat
namespace Go.Proofs.YtmdeppkfboaepaaGreat
open Go.Ab Ints
abbrev Bx3 := Nat × List Int × List Int
def pB (ss : List (List Tm)) (n : Nat) (x : Bx3) : Bool := decide (0 < (A6u x.1 ss x.2.1 x.2.2 n).length)
def B9c (ss : List (List Tm)) (n : Nat) (D : List Bx3) (m : Nat) : List Nat := (List.range m).filter fun i => (D[i]?).any (pB ss n)
theorem B9m {ss : List (List Tm)} {n : Nat} {D : List Bx3} {m : Nat} (h : m < D.length) : B9c ss n D (m + 1) = B9c ss n D m ++ if pB ss n D[m] then [m] else [] := by
 unfold B9c; rw [List.range_succ, List.filter_append]
 congr 1
 rw [List.filter_cons, List.getElem?_eq_getElem h]; simp
theorem B7d (ss : List (List Tm)) (n : Nat) (D : List Bx3) (m : Nat) : (B9c ss n D m).length ≤ m := by
 have := List.length_filter_le (fun i => (D[i]?).any (pB ss n)) (List.range m); rw [List.length_range] at this; exact this
def miR (ss : List (List Tm)) (n : Nat) (D : List Bx3) : Option (List Nat) := if D.all (fun x => decide (x.1 ≤ 4)) then some (B9c ss n D D.length) else none
def W1 (K t n : Nat) (L U : List Int) : List Bx3 := (n9 (2 ^ t) n).map (L4 K t L U)
theorem D0j {ss : List (List Tm)} {n : Nat} {D : List Bx3} {m : Nat} (h : m < D.length) (hk : 4 < D[m].1) : miR ss n D = none := by
 unfold miR; rw [if_neg]; intro h0; rw [List.all_eq_true] at h0; have := of_decide_eq_true (h0 _ (List.getElem_mem h)); omega
theorem C6s {ss : List (List Tm)} {n : Nat} {D : List Bx3} (h : ∀ x ∈ D, x.1 ≤ 4) : miR ss n D = some (B9c ss n D D.length) := by
 unfold miR; rw [if_pos]; rw [List.all_eq_true]; exact fun x hx => decide_eq_true (h x hx)
theorem B2j {K t n : Nat} {L U : List Int} (hn : n ≤ 3) (ht : t ≤ 2) : (W1 K t n L U).length ≤ 64 := by
 have := (A3u ⟨n, by omega⟩ ⟨t, by omega⟩).1; simpa [W1] using this
theorem C21 {ss : List (List Tm)} {K t n : Nat} {L U : List Int} (hg : G0 K L U = true) (hK : K ≤ 4) (ht : t ≤ 2) (hL : L.length = n) (hss : P7 ss = true) (hn : ss.length = n) {x : Bx3} (hx : x ∈ W1 K t n L U) (h4 : x.1 ≤ 4) : Crs x.1 n x.2.1 x.2.2 := by
 obtain ⟨_, _, q3, q4, q5, _, _⟩ := F7 hg; have hr : L9 (8 * 2 ^ K) L U = true := by
  simp only [G0, Bool.and_eq_true] at hg; simpa using hg.1.2
 obtain ⟨v, hv, rfl⟩ := List.mem_map.1 hx; obtain ⟨fv, fi⟩ := (A3u ⟨n, by omega⟩ ⟨t, by omega⟩).2 v hv; obtain ⟨g1, g2⟩ := B0n (t := t) hL (by omega) (by omega) (by omega) (by omega) hr fv fi; have ha : A48 ss (L4 K t L U v).1 (L4 K t L U v).2.1 (L4 K t L U v).2.2 = true := by
  simp only [A48, hss, g1, Bool.true_and, Bool.and_eq_true, decide_eq_true_eq, beq_iff_eq]; omega
 obtain ⟨kn, n', e1, e2, e3, _⟩ := C3h ha; have : kn = (L4 K t L U v).1 := by omega
 subst this; have : n' = n := by omega
 subst this; exact e3
theorem D1k {l : List BX} {i : Nat} {x : BX} (h : l[i]? = some x) : (bxs l)[i * 3]? = some (.int .i64 x.k) ∧ (bxs l)[i * 3 + 1]? = some x.s ∧ (bxs l)[i * 3 + 2]? = some x.t := by
 have e := C45 h; have g : ∀ j, j < 3 → (bxs l)[i * 3 + j]? = (bxc x)[j]? := by
  intro j hj; rw [← e, List.getElem?_take_of_lt hj, List.getElem?_drop]
 exact ⟨g 0 (by omega), g 1 (by omega), g 2 (by omega)⟩
theorem F3.boxQ {H : A1} {lo b : Nat} {P : Nat → Prop} {v : Value} {es : List BX} (h : F3 H lo P b v es) {i : Nat} (hi : i < es.length) :
 F1 3 v (.int .i64 i) = some (.pointer (some ⟨b, i * 3, none⟩)) ∧ b < H.next ∧ B0g H b (i * 3) es[i].k es[i].s es[i].t es[i].lo es[i].hi := by
 obtain ⟨g1, g2, g3⟩ := D1k (List.getElem?_eq_getElem hi); obtain ⟨c, d, k1, k2, _⟩ := h.el _ (List.getElem_mem hi); refine ⟨Vec.iad h.vec .i64 hi, ?_, Vec.cell h.vec g1, Vec.cell h.vec g2, Vec.cell h.vec g3, Vec.sl k1, Vec.sl k2⟩; rcases h.st with ⟨_, h⟩ | h
 ·subst h; simp at hi
 ·exact h
theorem C3e (lim : Nat) (v : Value) (K : Int) (times : Int) (L U : List Int) (H : A1) (hl : lim ≤ H.next) (hv : V6 H v K L U) (hL : L.length ≤ 1000000) (hU : U.length ≤ 1000000) (hno : (decide (0 ≤ times) && decide (times ≤ 2)) = false) :
 A5 Tryz.prog lim A57 [v, .int .i64 times] H fun v H' => v = .tuple #[.slice none 0 0, .bool false] ∧ Ext H H' := by
 obtain ⟨s, u, rfl, hs, hu⟩ := hv; refine A4e.go rfl ?_; unfold A1i; refine A0 ?_; simp only [sS, M5, C2]; have hx := Ext.alloc H [.int .i64 (K : Int), s, u]; have hbp : (H.alloc [.int .i64 (K : Int), s, u]).blk H.next = some [.int .i64 (K : Int), s, u] := A6 _ _; generalize H.alloc [.int .i64 (K : Int), s, u] = H1 at hx hbp ⊢; have hn1 := hx.next; refine J1 true (Ext H1) ?_ (fun H2 hx2 _ => ?_) (fun H2 hx2 hg => by cases hg)
 ·simp only [sS, E9 hbp]; refine (Ints.e8 lim _ K L U H1 (by omega) ⟨s, u, rfl, SlI.ext hs hx, SlI.ext hu hx⟩ (by omega) (by omega)).mono ?_; rintro _ H2 ⟨rfl, hx2⟩; cases hgb : G0 K L U
  ·simp only [sS]; exact ⟨trivial, trivial, hx2⟩
  ·simp only [sS]; refine (Ints.L6 _ _ _ _ _).eq ?_; rw [hno]; simp only [sS]; exact ⟨trivial, trivial, hx2⟩
 ·refine A0 ?_; simp only [sS]; refine A3 ?_; simp +decide only [sQ]; exact ⟨trivial, hx.trans hx2⟩
theorem C81 (lim : Nat) (s v : Value) (ss : List (List Tm)) (K t n : Nat) (L U : List Int) (H : A1) (hl : lim ≤ H.next) (hs : l3 H s ss) (hv : V6 H v K L U) (hg : G0 K L U = true) (hK : K ≤ 4) (ht : t ≤ 2) (hL : L.length = n) (hss : P7 ss = true) (hn : ss.length = n) :
 A5 Tryz.prog lim S2 [s, v, .int .i64 t] H fun v H' => A4d H' H.next v (miR ss n (W1 K t n L U)) ∧ Ext H H' := by
 have hpc := fun (x : Bx3) hx h4 => C21 (x := x) (t := t) hg hK ht hL hss hn hx h4
 obtain ⟨_, _, q3, q4, q5, _, _⟩ := F7 hg; have hDl := B2j (K := K) (t := t) (n := n) (L := L) (U := U) (by omega) ht; have hpp := B5y hss; obtain ⟨ls, us, rfl, hls, hus⟩ := hv; refine A4x.go rfl ?_; unfold A0s; refine A0 ?_; simp only [sS, M5, C2]; have hx := Ext.alloc H [.int .i64 (K : Int), ls, us]; have hbp : (H.alloc [.int .i64 (K : Int), ls, us]).blk H.next = some [.int .i64 (K : Int), ls, us] := A6 _ _; generalize H.alloc [.int .i64 (K : Int), ls, us] = H1 at hx hbp ⊢; have hn1 := hx.next; refine A0 ?_; simp only [sS, E9 hbp]; refine (C77 lim _ K t n L U H1 (by omega) ⟨ls, us, rfl, SlI.ext hls hx, SlI.ext hus hx⟩ hg hK ht hL).mono ?_; rintro _ H2 ⟨⟨pv, es, b, rfl, hD, hG⟩, hx2⟩; have hn2 := hx2.next; have hD : es.map dat = W1 K t n L U := hD; generalize W1 K t n L U = D at hD hpc hDl ⊢; have hlen : es.length = D.length := by have := congrArg List.length hD; simpa using this
 simp only [sS]; refine A9 ?_; simp only [sS]; refine C4.false_ (A2 ?_); simp +decide only [sQ]; refine A0 ?_; simp only [sS]; refine C7 (A0 ?_); simp only [sS, hG.slb.lenV]; refine A7 ?_; refine B9 (fun j e' H' => ∃ (m b8 : Nat) (out x9 x10 : Value), m + j = es.length ∧ C0 H' b8 out (zl (B9c ss n D m)) ∧ H2.next ≤ b8 ∧ (b8 < H'.next ∨ (out = .slice none 0 0 ∧ zl (B9c ss n D m) = [])) ∧ (∀ x ∈ D.take m, x.1 ≤ 4) ∧ Ext H2 H' ∧ e' = [s, .agg #[.int .i64 (K : Int), ls, us], .int .i64 t, .pointer (some ⟨H.next, 0, none⟩), .slice none 0 0, .bool false, pv, .bool true, out, x9, x10, pv, .int .i64 es.length, .int .i64 m]) es.length ⟨0, H2.next, .slice none 0 0, _, _, by omega, Vec.nil _ _ _, Nat.le_refl _, .inr ⟨rfl, rfl⟩, by simp, Ext.refl _, rfl⟩ ?_; rintro j e' H3 ⟨m, b8, out, x9, x10, hmj, hv8, hb8, hst8, h4, hx3, rfl⟩; have hn3 := hx3.next; refine A9 ?_; simp only [sS]; refine C4.split (fun hlt => ?_) (fun hlt => ?_)
 ·have hm : m < es.length := by have := of_decide_eq_true hlt; omega
  have hmD : m < D.length := by omega
  obtain ⟨o1, o2, u1, u2⟩ := hG.slb.at hm; have hdx := A3s hD hm hmD; have hids := B9m (ss := ss) (n := n) hmD; have hidl := B7d ss n D m; have hno := D0j (ss := ss) (n := n) hmD; have hpc' := hpc D[m] (List.getElem_mem hmD); have h4' : D[m].1 ≤ 4 → ∀ x ∈ D.take (m + 1), x.1 ≤ 4 := by
   intro h x hx; rw [List.take_succ_eq_append_getElem hmD] at hx; rcases List.mem_append.1 hx with hx | hx
   ·exact h4 x hx
   ·rw [List.mem_singleton] at hx; rw [hx]; exact h
  obtain ⟨c, d, g1, g2, _⟩ := hG.el _ (List.getElem_mem hm); generalize D[m] = dm at *
  generalize es[m] = x at *
  obtain ⟨xk, xs, xt, xlo, xhi⟩ := x; obtain rfl : (xk, xlo, xhi) = dm := hdx; refine A2 ?_; simp +decide only [sQ]; refine A8 ?_; refine A0 ?_; have hst : C8 lim (H3.alloc [.int .i64 0, .slice none 0 0, .slice none 0 0]) 3 (.pointer (some ⟨H3.next, 0, none⟩)) (bxv ⟨xk, xs, xt, xlo, xhi⟩) = some (undef, H3.alloc [.int .i64 xk, xs, xt]) := E7 (by omega); simp only [sS, u1, u2 H3 hx3, hst]; have hx4 := Ext.alloc H3 [.int .i64 (xk : Int), xs, xt]; have hb4 : (H3.alloc [.int .i64 (xk : Int), xs, xt]).blk H3.next = some [.int .i64 (xk : Int), xs, xt] := A6 _ _; generalize H3.alloc [.int .i64 (xk : Int), xs, xt] = H4 at hx4 hb4 ⊢; have hn4 := hx4.next; refine A9 ?_; simp only [sS, Nat.zero_add, B7 hb4]; refine C4.split (fun hlt2 => ?_) (fun hlt2 => ?_)
  ·have hk : 4 < xk := by have := of_decide_eq_true hlt2; omega
   refine A0 ?_; simp only [sS]; refine A3 ?_; simp +decide only [sQ]; rw [hno hk]; exact ⟨⟨_, rfl, .inl ⟨rfl, rfl⟩⟩, ((hx.trans hx2).trans hx3).trans hx4⟩
  ·have hk : xk ≤ 4 := by have := of_decide_eq_false hlt2; omega
   have hc := hpc' hk; refine A2 ?_; simp +decide only [sQ]; have hx24 := hx3.trans hx4; have hx04 := (hx.trans hx2).trans hx24; have hl6 := B3s (k := xk) (ss := ss) (L := xlo) (U := xhi) hc.n3; have hcall : A5 Tryz.prog lim B1r [s, .agg #[.int .i64 (xk : Int), xs, xt]] H4 _ := C8y lim s _ ss xlo xhi xk n H4 (by omega) (hs.ext hx04) ⟨xs, xt, rfl, SlI.ext (Vec.sl g1) hx24, SlI.ext (Vec.sl g2) hx24⟩ hc (fun p hp => (hpp p hp).1) hn; refine E1 ?_; simp only [sS, E9 hb4]; refine hcall.mono ?_; rintro w H5 ⟨hw, hx5⟩; simp only [sS, hw.slss.lenV]; refine C4.split (fun hlt3 => ?_) (fun hlt3 => ?_)
   ·have hp : pB ss n (xk, xlo, xhi) = true := by
     have := of_decide_eq_true hlt3; rw [List.length_map] at this; exact decide_eq_true (by simp only; omega)
    have hn5 := hx5.next; rw [hp, if_pos rfl] at hids; obtain ⟨v', H6, b', e1, e2, e3, e4, e5, e6⟩ := n5 (lim := lim) (bytes := 8) (hv8.ext (hx4.trans hx5)) (vi (m : Int)) (by omega) (by rw [F4]; omega); refine A4 ?_; simp only [sS, L7 _ (.int .i64 0) (x := .int .i64 (m : Int)) rfl, e1]; simp +decide only [sQ]; refine A4 ?_; simp only [sS, D6 (i := m) (by omega)]; simp +decide only [sQ]; refine C6.mk (j - 1) (by omega) ⟨m + 1, b', v', _, _, by omega, ?_, by rcases e3 with h | h <;> omega, .inl e4, h4' hk, Chg.ext (hx24.trans hx5) e5 hb8, rfl⟩; rw [hids, B0f]; exact C0.snoc e2
   ·have hp : pB ss n (xk, xlo, xhi) = false := by
     have := of_decide_eq_false hlt3; rw [List.length_map] at this; exact decide_eq_false (by simp only; omega)
    rw [hp, if_neg (by decide), List.append_nil] at hids; refine A2 ?_; simp +decide only [sQ]; refine A4 ?_; simp only [sS, D6 (i := m) (by omega)]; simp +decide only [sQ]; have hn5 := hx5.next; refine C6.mk (j - 1) (by omega) ⟨m + 1, b8, out, _, _, by omega, by rw [hids]; exact hv8.ext (hx4.trans hx5), hb8, by rw [hids]; exact hst8.imp (fun h => by omega) id, h4' hk, hx24.trans hx5, rfl⟩
 ·have hm : m = es.length := by have := of_decide_eq_false hlt; omega
  subst hm; refine B8 ?_; simp +decide only [sQ, reduceIte]; rw [hlen] at hv8 hst8 h4; rw [List.take_length] at h4; refine A0 ?_; simp only [sS]; refine A3 ?_; simp +decide only [sQ]; rw [C6s h4]; refine ⟨⟨_, rfl, ?_⟩, (hx.trans hx2).trans hx3⟩; rcases hst8 with h | h
  ·exact .inr ⟨b8, by omega, h, hv8⟩
  ·exact .inl h
end Go.Proofs.YtmdeppkfboaepaaGreat
