/- Parts of the proof of a statement of this seat: contracts of functions that the law calls, or the law's own row; no condition. -/
import Derived.Test.YtmdeppkfboaepaaGreatM3
set_option maxHeartbeats 8000000
set_option linter.unusedSimpArgs false
set_option linter.unusedVariables false
namespace Go.Ab
theorem C1v {P : Program} {lim : Nat} {Q : J6} {e : List Value} {H : A1} {a b : C1} (I : List Value → A1 → Prop) (h : awp P lim a (J6.seq I Q) e H) (h1 : ∀ e' H', I e' H' → awp P lim b Q e' H') : awp P lim (.seq a b) Q e H :=
 awp.mono a (by intro ex e H h; cases ex <;> first | exact h1 _ _ h | exact h) h
end Go.Ab
namespace Go.Proofs.YtmdeppkfboaepaaGreat
open Go.Ab Ints
def S4 (lo : Nat) (H : A1) (v : Value) : Prop := ∃ (k : Int) (s t : Value) (b c : Nat) (low high : List Int), v = .agg #[.int .i64 k, s, t] ∧ lo ≤ b ∧ lo ≤ c ∧ C0 H b s low ∧ C0 H c t high ∧ low.length ≤ 3 ∧ high.length ≤ 3
theorem S4.chg {lo q : Nat} {H H' : A1} {v : Value} (h : S4 lo H v) (hc : Chg q H H') (hq : q < lo) : S4 lo H' v := by
 obtain ⟨k, s, t, b, c, low, high, h1, h2, h3, h4, h5, h6⟩ := h; exact ⟨k, s, t, b, c, low, high, h1, h2, h3, Vec.chg h4 hc (by omega), Vec.chg h5 hc (by omega), h6⟩
theorem S4.ext {lo : Nat} {H H' : A1} {v : Value} (h : S4 lo H v) (hx : Ext H H') : S4 lo H' v := by
 obtain ⟨k, s, t, b, c, low, high, h1, h2, h3, h4, h5, h6⟩ := h; exact ⟨k, s, t, b, c, low, high, h1, h2, h3, Vec.ext h4 hx, Vec.ext h5 hx, h6⟩
theorem S4.low {lo lo' : Nat} {H : A1} {v : Value} (h : S4 lo H v) (hl : lo' ≤ lo) : S4 lo' H v := by
 obtain ⟨k, s, t, b, c, low, high, h1, h2, h3, h4⟩ := h; exact ⟨k, s, t, b, c, low, high, h1, by omega, by omega, h4⟩
theorem D0z.boxA {lo n : Nat} {H : A1} {v : Value} (h : D0z lo H v n) (hn : n ≤ 3) : S4 lo H v := by
 obtain ⟨k, s, t, b, c, low, high, h1, h2, h3, _, h4, h5, h6, h7⟩ := h; exact ⟨k, s, t, b, c, low, high, h1, h2, h3, h4, h5, by omega, by omega⟩
theorem S4.form {lo : Nat} {H : A1} {v : Value} (h : S4 lo H v) : ∃ k s t, v = .agg #[.int .i64 k, s, t] := by
 obtain ⟨k, s, t, b, c, low, high, h1, _⟩ := h; exact ⟨k, s, t, h1⟩
theorem Vec.cutK {H : A1} {b n : Nat} {v : Value} {cells : List Value} (h : Vec H b v n 1 cells) {k : Nat} (hk : k ≤ n) : ∃ vk, O5 1 v none (some (.int .i64 k)) none = some vk ∧ Vec H b vk k 1 (cells.take k) := by
 have hcl := h.clen; rw [Nat.mul_one] at hcl; have hB : ∀ (x y : Nat), x ≤ y → Q0 (.int .i64 x) y = some x := by
  intro x y hxy; simp [Q0, C5f, hxy]
 rcases h with ⟨rfl, h2, h3⟩ | ⟨c, sp, rest, rfl, hsp, hb, hblk, hcl', hc, hcr⟩
 ·have hk0 : k = 0 := by omega
  subst hk0; subst h3; exact ⟨.slice none 0 0, rfl, .inl ⟨rfl, rfl, rfl⟩⟩
 ·have s2 : O5 1 (.slice (some ⟨b, 0, sp⟩) n c) none (some (.int .i64 k)) none = some (.slice (some ⟨b, 0, sp⟩) k c) := by
   simp only [O5, Y7, hB k c (by omega), Option.bind_some, if_pos hsp, Option.isSome_none, Bool.false_eq_true, if_false, Nat.zero_mul, Nat.add_zero, Nat.sub_zero]
  refine ⟨_, s2, .inr ⟨c, sp, cells.drop k ++ rest, rfl, hsp, hb, ?_, by rw [List.length_take]; omega, by omega, ?_⟩⟩
  ·rw [← List.append_assoc, List.take_append_drop]; exact hblk
  ·rw [List.length_append, List.length_drop]; omega
theorem B98 (lim q m : Nat) (B : A1) (s : Value) (l : List Int) (n : Nat) (H : A1) (hl : lim ≤ B.next) (hs : SlB B s l) (hc : Cu B H q s m) (hm : m ≤ 2500000000000000000) (hn1 : 1 ≤ n) (hn : n ≤ 3) :
 A5 Tryz.prog lim A7c [Ptr q, .int .i64 n] H fun v H' => S4 H.next H' v ∧ Cu B H' q s (m + 200) ∧ Chg q H H' := by
 have hqH := hc.lt; have hBq := hc.ge; refine A51.go rfl ?_; unfold A0g; refine A0 ?_; simp only [sS]; have hx := Ext.alloc H z3; have hr2 : (H.alloc z3).blk H.next = some z3 := A6 _ _; have hnA : (H.alloc z3).next = H.next + 1 := rfl; generalize H.alloc z3 = HA at hx hr2 hnA ⊢; have hcA := hc.of_ext hx; refine A0 ?_; simp only [sS]; refine (D0h lim q m B s l n HA hl hs hcA (by omega) hn).mono ?_; rintro _ HB ⟨⟨k, bs, bt, b, c, low, high, rfl, hb, hcc, hbc, hv, hw, hll, hhl⟩, hcB, hchB⟩; have hnB := hchB.next; have st0 : C8 lim (HB.alloc z3) 3 (.pointer (some ⟨HB.next, 0, none⟩)) (.agg #[.int .i64 k, bs, bt]) = some (undef, HB.alloc [.int .i64 k, bs, bt]) := E7 (by omega); have hbB : b < HB.next := (hv.blk (by omega)).elim fun _ h => h.2
 have hcB' : c < HB.next := (hw.blk (by omega)).elim fun _ h => h.2
 simp only [sS, st0]; have hx1 := Ext.alloc HB [.int .i64 k, bs, bt]; have hbk1 : (HB.alloc [.int .i64 k, bs, bt]).blk HB.next = some [.int .i64 k, bs, bt] := A6 _ _; have hn1' : (HB.alloc [.int .i64 k, bs, bt]).next = HB.next + 1 := rfl; have hr2B := hchB.kept hr2 (by omega) (by omega); generalize HB.alloc [.int .i64 k, bs, bt] = H1 at hx1 hbk1 hn1' ⊢; have hcH1 := hcB.of_ext hx1; have hv1 : C0 H1 b bs low := Vec.ext hv hx1; have hw1 : C0 H1 c bt high := Vec.ext hw hx1; have hr21 : H1.blk H.next = some z3 := by rw [hx1.blk _ (by omega)]; exact hr2B
 have hch01 : Chg q H H1 := ((Chg.of_ext hx).trans hchB).more hx1; clear hv hw hcB hx1 hr2B st0 hchB hcA hr2 hx; refine C7 (A0 ?_); simp only [sS]; refine (J3 lim q _ B s l 40 H1 hl hs hcH1 (by omega) (by omega)).mono ?_; rintro _ H2 ⟨⟨sw, rfl, _, _⟩, hc2, hch2⟩; have hn2 := hch2.next; have hv2 : C0 H2 b bs low := Vec.chg hv1 hch2 (by omega); have hw2 : C0 H2 c bt high := Vec.chg hw1 hch2 (by omega); have hr22 : H2.blk H.next = some z3 := hch2.kept hr21 (by omega) (by omega); have hbk2 : H2.blk HB.next = some [.int .i64 k, bs, bt] := hch2.kept hbk1 (by omega) (by omega); have hch02 := hch01.trans hch2; clear hv1 hw1 hr21 hbk1 hch01 hch2 hcH1; generalize HB.next = bb at *
 simp only [sS]; refine C1v (fun e' H' => ∃ (k' : Int) (s' t' : Value) (b' c' : Nat) (low' high' : List Int), H'.blk bb = some [.int .i64 k', s', t'] ∧ H'.blk H.next = some z3 ∧ HA.next ≤ b' ∧ HA.next ≤ c' ∧ C0 H' b' s' low' ∧ C0 H' c' t' high' ∧ low'.length ≤ 3 ∧ high'.length ≤ 3 ∧ bb < H'.next ∧ Cu B H' q s (m + 190) ∧ Chg q H H' ∧ e' = [Ptr q, .int .i64 n, Ptr H.next, Ptr bb, .int .i64 sw]) ?_ ?_; rotate_left
 ·rintro e' H' ⟨k', s', t', b', c', low', high', h1, h2, h3, h4, h5, h6, h7, h8, h9, h10, h11, rfl⟩; have st : C8 lim H' 3 (Ptr H.next) (.agg #[.int .i64 k', s', t']) = some (undef, H'.put H.next [.int .i64 k', s', t']) := L5 (by omega) h2; refine A0 ?_; simp only [sS, E9 h1, st]; refine A3 ?_; have l5 : D5 (H'.put H.next [.int .i64 k', s', t']) 3 (Ptr H.next) = some (.agg #[.int .i64 k', s', t']) := F9 (D3 _ _ _); simp +decide only [sQ, l5]; have hchp := Chg.put H.next H' [.int .i64 k', s', t']; exact ⟨⟨k', s', t', b', c', low', high', rfl, by omega, by omega, Vec.chg h5 hchp (by omega), Vec.chg h6 hchp (by omega), h7, h8⟩, Cu.le (h10.chg hchp (by omega) (by omega)) (by omega), Chg.above h11 hchp (Nat.le_refl _)⟩
 refine A8 ?_; refine D0 (sw == 0) ?_ (fun hg => ?_) (fun hg => ?_)
 ·simp only [sS]; simp
 ·-- another K
  have f7 : C9 [.int .i64 0, .int .i64 0, .int .i64 0] [(0, 1, .int .i64 (-1)), (1, 1, .int .i64 9), (2, 1, .int .i64 4611686018427387904)] = some (([-1, 9, 4611686018427387904] : List Int).map vi) := by simp [C9, C2, F8]
  refine A4 ?_; simp only [sS, I0 f7]; refine (F0 lim q _ B s l [-1, 9, 4611686018427387904] H2 hl hs hc2 (by omega) (by simp) (by simp)).mono ?_; rintro _ H3 ⟨⟨x, _, rfl⟩, hc3, hch3⟩; have hn3 := hch3.next; have hbk3 : H3.blk bb = some [.int .i64 k, bs, bt] := hch3.kept hbk2 (by omega) (by omega); have hst : C8 lim H3 1 (.pointer (some ⟨bb, 0, none⟩)) (.int .i64 x) = some (undef, H3.put bb [.int .i64 x, bs, bt]) := S3 (o := 0) rfl (by omega) hbk3 (by simp); have hchp := Chg.put bb H3 [.int .i64 x, bs, bt]; simp only [sS, Nat.add_zero, hst]; simp +decide only [sQ]; exact ⟨x, bs, bt, b, c, low, high, D3 _ _ _, by rw [K5 _ _ (by omega)]; exact hch3.kept hr22 (by omega) (by omega), hb, hcc, Vec.chg (Vec.chg hv2 hch3 (by omega)) hchp (by omega), Vec.chg (Vec.chg hw2 hch3 (by omega)) hchp (by omega), by omega, by omega, by have := hchp.next; omega, Cu.le (hc3.chg hchp (by omega) (by omega)) (by omega), Chg.above (hch02.trans hch3) hchp (by omega), trivial⟩
 refine D0 (sw == 1) ?_ (fun hg => ?_) (fun hg => ?_)
 ·simp only [sS]; simp
 ·-- the first lower number turned
  have i1 : F1 1 bs (.int .i64 0) = some (.pointer (some ⟨b, 0, none⟩)) := by have := Vec.iad hv2 .i64 (i := 0) (by omega); simpa using this
  have i2 : F1 1 bt (.int .i64 0) = some (.pointer (some ⟨c, 0, none⟩)) := by have := Vec.iad hw2 .i64 (i := 0) (by omega); simpa using this
  obtain ⟨tw, htw, htw20⟩ : ∃ tw : Nat, (if (0 : Int) > (if (20 : Int) < k then 20 else k) then (0 : Int) else (if (20 : Int) < k then 20 else k)) = (tw : Int) ∧ tw ≤ 20 := by
   by_cases h1 : (20 : Int) < k
   ·exact ⟨20, by simp [h1], by omega⟩
   ·by_cases h2 : (0 : Int) > k
    ·exact ⟨0, by simp [h1, h2], by omega⟩
    ·exact ⟨k.toNat, by simp [h1]; omega, by omega⟩
  have fin : ∀ (H3 : A1) (x : Int), Cu B H3 q s (m + 100 + 2 + 2) → Chg q H2 H3 → ∃ cs, C8 lim H3 1 (.pointer (some ⟨b, 0, none⟩)) (.int .i64 x) = some (undef, H3.put b cs) ∧ ∃ (k' : Int) (s' t' : Value) (b' c' : Nat) (low' high' : List Int), (H3.put b cs).blk bb = some [.int .i64 k', s', t'] ∧ (H3.put b cs).blk H.next = some z3 ∧ HA.next ≤ b' ∧ HA.next ≤ c' ∧ C0 (H3.put b cs) b' s' low' ∧ C0 (H3.put b cs) c' t' high' ∧ low'.length ≤ 3 ∧ high'.length ≤ 3 ∧ bb < (H3.put b cs).next ∧ Cu B (H3.put b cs) q s (m + 190) ∧ Chg q H (H3.put b cs) := by
   intro H3 x hc3 hch3; have hn3 := hch3.next; have hbk3 : H3.blk bb = some [.int .i64 k, bs, bt] := hch3.kept hbk2 (by omega) (by omega); have v3 : C0 H3 b bs low := Vec.chg hv2 hch3 (by omega); have w3 : C0 H3 c bt high := Vec.chg hw2 hch3 (by omega); obtain ⟨cs, s1, s2⟩ := Vec.put1 (lim := lim) v3 (by omega) (i := 0) (x := .int .i64 x) rfl (by omega); have s2' : C0 (H3.put b cs) b bs (low.set 0 x) := by
    show Vec _ _ _ _ 1 _; rw [List.length_set, List.map_set]; exact s2
   have hchp := Chg.put b H3 cs; exact ⟨cs, s1, k, bs, bt, b, c, low.set 0 x, high, by rw [K5 _ _ (by omega)]; exact hbk3, by rw [K5 _ _ (by omega)]; exact hch3.kept hr22 (by omega) (by omega), hb, hcc, s2', Vec.chg w3 hchp (by omega), by rw [List.length_set]; omega, by omega, by have := hchp.next; omega, Cu.le (hc3.chg hchp (by omega) (by omega)) (by omega), Chg.above (hch02.trans hch3) hchp (by omega)⟩
  obtain ⟨h0, hh0⟩ : ∃ h0 : Int, H2.cell c 0 = some (.int .i64 h0) := by
   obtain ⟨rest, h1, _⟩ := hw2.blk (by omega); rw [B7 h1]; cases high with
   | nil => simp at hhl; omega
   | cons x r => exact ⟨x, rfl⟩
  have hbs : ∀ (G : A1) (x y : Int), E0 G 3 [.int .i64 0, .int .i64 0, .int .i64 0] [(0, 1, .int .i64 x), (1, 1, .int .i64 y), (2, 1, .int .i64 (-9223372036854775808))] = some (.slice (some ⟨G.next, 0, some 0⟩) 3 3, G.alloc (([x, y, -9223372036854775808] : List Int).map vi)) := fun G x y => I0 (by simp [C9, C2, F8])
  have hal : ∀ (cs : List Value) (o : Nat), (H2.alloc cs).cell bb o = ([.int .i64 k, bs, bt] : List Value)[o]? := fun cs o => B7 (by rw [(Ext.alloc H2 cs).blk _ (by omega)]; exact hbk2) o
  refine C6g ?_; simp (maxSteps := 4000000) only [sS, reduceCtorEq, Nat.zero_add, Nat.add_zero, B7 hbk2, i1, i2, hh0]
  repeat' (with_reducible apply And.intro)
  all_goals (refine (d4 _ 20 k H2).eq ?_)
  all_goals (simp only [sS, B7 hbk2, i2, hh0])
  all_goals (repeat' (with_reducible apply And.intro))
  all_goals (refine (V7 _ 0 _ H2).eq ?_)
  all_goals (rw [htw])
  all_goals (simp only [sS, B7 hbk2, i2, hh0])
  all_goals (repeat' (with_reducible apply And.intro))
  all_goals (refine (Ints.O4 _ tw H2 (by omega)).eq ?_)
  all_goals (simp only [sS, B7 hbk2, i2, hh0, hbs, hal])
  all_goals (repeat' (with_reducible apply And.intro))
  all_goals (refine (F0 lim q _ B s l [h0, _, -9223372036854775808] H2 hl hs hc2 (by omega) (by simp) (by simp)).mono ?_)
  all_goals (rintro _ H3 ⟨⟨x, _, rfl⟩, hc3, hch3⟩)
  all_goals (obtain ⟨cs, s1, s2⟩ := fin H3 x hc3 hch3)
  all_goals (simp only [sS, B7 (hch3.kept hbk2 (by omega) (by omega)), i1, s1])
  all_goals (repeat' (with_reducible apply And.intro))
  all_goals (simp +decide only [sQ])
  all_goals (obtain ⟨k', s', t', b', c', low', high', s2⟩ := s2)
  all_goals (refine ⟨k', s', t', b', c', low', high', ?_⟩)
  all_goals (simp only [s2, and_self])
 refine D0 (sw == 2) ?_ (fun hg => ?_) (fun hg => ?_)
 ·simp only [sS]; simp
 ·-- the first upper number turned
  have i1 : F1 1 bs (.int .i64 0) = some (.pointer (some ⟨b, 0, none⟩)) := by have := Vec.iad hv2 .i64 (i := 0) (by omega); simpa using this
  have i2 : F1 1 bt (.int .i64 0) = some (.pointer (some ⟨c, 0, none⟩)) := by have := Vec.iad hw2 .i64 (i := 0) (by omega); simpa using this
  obtain ⟨tw, htw, htw20⟩ : ∃ tw : Nat, (if (0 : Int) > (if (20 : Int) < k then 20 else k) then (0 : Int) else (if (20 : Int) < k then 20 else k)) = (tw : Int) ∧ tw ≤ 20 := by
   by_cases h1 : (20 : Int) < k
   ·exact ⟨20, by simp [h1], by omega⟩
   ·by_cases h2 : (0 : Int) > k
    ·exact ⟨0, by simp [h1, h2], by omega⟩
    ·exact ⟨k.toNat, by simp [h1]; omega, by omega⟩
  have fin : ∀ (H3 : A1) (x : Int), Cu B H3 q s (m + 100 + 2 + 2) → Chg q H2 H3 → ∃ cs, C8 lim H3 1 (.pointer (some ⟨c, 0, none⟩)) (.int .i64 x) = some (undef, H3.put c cs) ∧ ∃ (k' : Int) (s' t' : Value) (b' c' : Nat) (low' high' : List Int), (H3.put c cs).blk bb = some [.int .i64 k', s', t'] ∧ (H3.put c cs).blk H.next = some z3 ∧ HA.next ≤ b' ∧ HA.next ≤ c' ∧ C0 (H3.put c cs) b' s' low' ∧ C0 (H3.put c cs) c' t' high' ∧ low'.length ≤ 3 ∧ high'.length ≤ 3 ∧ bb < (H3.put c cs).next ∧ Cu B (H3.put c cs) q s (m + 190) ∧ Chg q H (H3.put c cs) := by
   intro H3 x hc3 hch3; have hn3 := hch3.next; have hbk3 : H3.blk bb = some [.int .i64 k, bs, bt] := hch3.kept hbk2 (by omega) (by omega); have v3 : C0 H3 b bs low := Vec.chg hv2 hch3 (by omega); have w3 : C0 H3 c bt high := Vec.chg hw2 hch3 (by omega); obtain ⟨cs, s1, s2⟩ := Vec.put1 (lim := lim) w3 (by omega) (i := 0) (x := .int .i64 x) rfl (by omega); have s2' : C0 (H3.put c cs) c bt (high.set 0 x) := by
    show Vec _ _ _ _ 1 _; rw [List.length_set, List.map_set]; exact s2
   have hchp := Chg.put c H3 cs; exact ⟨cs, s1, k, bs, bt, b, c, low, high.set 0 x, by rw [K5 _ _ (by omega)]; exact hbk3, by rw [K5 _ _ (by omega)]; exact hch3.kept hr22 (by omega) (by omega), hb, hcc, Vec.chg v3 hchp (by omega), s2', by omega, by rw [List.length_set]; omega, by have := hchp.next; omega, Cu.le (hc3.chg hchp (by omega) (by omega)) (by omega), Chg.above (hch02.trans hch3) hchp (by omega)⟩
  have hbs : ∀ (G : A1) (y : Int), E0 G 2 [.int .i64 0, .int .i64 0] [(0, 1, .int .i64 y), (1, 1, .int .i64 9223372036854775807)] = some (.slice (some ⟨G.next, 0, some 0⟩) 2 2, G.alloc (([y, 9223372036854775807] : List Int).map vi)) := fun G y => I0 (by simp [C9, C2, F8])
  have hal : ∀ (cs : List Value) (o : Nat), (H2.alloc cs).cell bb o = ([.int .i64 k, bs, bt] : List Value)[o]? := fun cs o => B7 (by rw [(Ext.alloc H2 cs).blk _ (by omega)]; exact hbk2) o
  refine C6g ?_; simp (maxSteps := 4000000) only [sS, reduceCtorEq, Nat.zero_add, Nat.add_zero, B7 hbk2, i1, i2]
  repeat' (with_reducible apply And.intro)
  all_goals (refine (d4 _ 20 k H2).eq ?_)
  all_goals (simp only [sS, B7 hbk2])
  all_goals (repeat' (with_reducible apply And.intro))
  all_goals (refine (V7 _ 0 _ H2).eq ?_)
  all_goals (rw [htw])
  all_goals (simp only [sS, B7 hbk2])
  all_goals (repeat' (with_reducible apply And.intro))
  all_goals (refine (Ints.O4 _ tw H2 (by omega)).eq ?_)
  all_goals (simp only [sS, B7 hbk2, hbs, hal])
  all_goals (repeat' (with_reducible apply And.intro))
  all_goals (refine (F0 lim q _ B s l [_, 9223372036854775807] H2 hl hs hc2 (by omega) (by simp) (by simp)).mono ?_)
  all_goals (rintro _ H3 ⟨⟨x, _, rfl⟩, hc3, hch3⟩)
  all_goals (obtain ⟨cs, s1, s2⟩ := fin H3 x hc3 hch3)
  all_goals (simp only [sS, B7 (hch3.kept hbk2 (by omega) (by omega)), i2, s1])
  all_goals (repeat' (with_reducible apply And.intro))
  all_goals (simp +decide only [sQ])
  all_goals (obtain ⟨k', s', t', b', c', low', high', s2⟩ := s2)
  all_goals (refine ⟨k', s', t', b', c', low', high', ?_⟩)
  all_goals (simp only [s2, and_self])
 refine D0 (sw == 3) ?_ (fun hg => ?_) (fun hg => ?_)
 ·simp only [sS]; simp
 ·-- a shorter list
  obtain ⟨vk, k1, k2⟩ := Vec.cutK hw2 (k := n - 1) (by omega); have w1 : IntKind.i64.wrap ((n : Int) - 1) = ((n - 1 : Nat) : Int) := by rw [show (n : Int) - 1 = ((n - 1 : Nat) : Int) by omega]; exact J0 (by omega)
  have hst : C8 lim H2 1 (.pointer (some ⟨bb, 2, none⟩)) vk = some (undef, H2.put bb [.int .i64 k, bs, vk]) := S3 (o := 2) (Vec.cellsV k2) (by omega) hbk2 (by simp); have hchp := Chg.put bb H2 [.int .i64 k, bs, vk]; refine A4 ?_; simp only [sS, Nat.zero_add, B7 hbk2, w1, k1, hst]; simp +decide only [sQ]; have k3 : C0 H2 c vk (high.take (n - 1)) := by
   show Vec _ _ _ _ 1 _; rw [List.map_take, show (high.take (n - 1)).length = n - 1 by simp; omega]; exact k2
  exact ⟨k, bs, vk, b, c, low, high.take (n - 1), D3 _ _ _, by rw [K5 _ _ (by omega)]; exact hr22, hb, hcc, Vec.chg hv2 hchp (by omega), Vec.chg k3 hchp (by omega), by omega, by simp; omega, by have := hchp.next; omega, Cu.le (hc2.chg hchp (by omega) (by omega)) (by omega), Chg.above hch02 hchp (by omega), trivial⟩
 refine D0 (sw == 4) ?_ (fun hg => ?_) (fun hg => ?_)
 ·simp only [sS]; simp
 ·-- a box that is none
  have hz0 := Ext.alloc H2 [vi 0]; have hz1 := Ext.alloc (H2.alloc [vi 0]) [vi 2]; have g0 := Q9 H2 .i64 0 (.int .i64 0); have g1 := Q9 (H2.alloc [vi 0]) .i64 2 (.int .i64 0); have v0 : C0 (H2.alloc [vi 0]) H2.next (.slice (some ⟨H2.next, 0, some 0⟩) 1 1) [0] := C0.lit H2 [0]; have v1 : C0 ((H2.alloc [vi 0]).alloc [vi 2]) (H2.alloc [vi 0]).next (.slice (some ⟨(H2.alloc [vi 0]).next, 0, some 0⟩) 1 1) [2] := C0.lit (H2.alloc [vi 0]) [2]; have hn3 : (H2.alloc [vi 0]).next = H2.next + 1 := rfl; refine A0 ?_; simp only [sS, g0]; generalize H2.alloc [vi 0] = H3 at *
  simp only [sS, g1]; have hn4 : (H3.alloc [vi 2]).next = H3.next + 1 := rfl; generalize H3.alloc [vi 2] = H4 at *
  have hr24 : H4.blk H.next = some z3 := by rw [hz1.blk _ (by omega), hz0.blk _ (by omega)]; exact hr22
  have st : C8 lim H4 3 (Ptr H.next) (.agg #[.int .i64 1, .slice (some ⟨H2.next, 0, some 0⟩) 1 1, .slice (some ⟨H3.next, 0, some 0⟩) 1 1]) = some (undef, H4.put H.next [.int .i64 1, .slice (some ⟨H2.next, 0, some 0⟩) 1 1, .slice (some ⟨H3.next, 0, some 0⟩) 1 1]) := L5 (by omega) hr24; have hf : C9 z3 [(0, 1, .int .i64 1), (1, 1, .slice (some ⟨H2.next, 0, some 0⟩) 1 1), (2, 1, .slice (some ⟨H3.next, 0, some 0⟩) 1 1)] = some [.int .i64 1, .slice (some ⟨H2.next, 0, some 0⟩) 1 1, .slice (some ⟨H3.next, 0, some 0⟩) 1 1] := by simp [C9, C2, F8]
  simp only [sS, hf, st]; refine A3 ?_; have l5 : D5 (H4.put H.next [.int .i64 1, .slice (some ⟨H2.next, 0, some 0⟩) 1 1, .slice (some ⟨H3.next, 0, some 0⟩) 1 1]) 3 (Ptr H.next) = some (.agg #[.int .i64 1, .slice (some ⟨H2.next, 0, some 0⟩) 1 1, .slice (some ⟨H3.next, 0, some 0⟩) 1 1]) := F9 (D3 _ _ _); simp +decide only [sQ, l5]; have hchp := Chg.put H.next H4 [.int .i64 1, .slice (some ⟨H2.next, 0, some 0⟩) 1 1, .slice (some ⟨H3.next, 0, some 0⟩) 1 1]; exact ⟨⟨1, _, _, H2.next, H3.next, [0], [2], rfl, by omega, by omega, Vec.chg (Vec.ext v0 hz1) hchp (by omega), Vec.chg v1 hchp (by omega), by simp, by simp⟩, Cu.le ((hc2.of_ext (hz0.trans hz1)).chg hchp (by omega) (by omega)) (by omega), Chg.above (hch02.more (hz0.trans hz1)) hchp (Nat.le_refl _)⟩
 refine A2 ?_; simp +decide only [sQ]; exact ⟨k, bs, bt, b, c, low, high, hbk2, hr22, hb, hcc, hv2, hw2, by omega, by omega, by omega, hc2.le (by omega), hch02, trivial⟩
end Go.Proofs.YtmdeppkfboaepaaGreat
namespace Go.Proofs.YtmdeppkfboaepaaGreat
open Go.Ab Ints
def A1v (lo : Nat) (H : A1) (v : Value) (ss : List (List Tm)) : Prop := ∃ b vs, lo ≤ b ∧ Vec H b v ss.length 1 vs ∧ ∀ (i : Nat) (p : List Tm), ss[i]? = some p → ∃ s c, vs[i]? = some s ∧ lo ≤ c ∧ G8 H c s p
theorem A1v.chg {lo q : Nat} {H H' : A1} {v : Value} {ss : List (List Tm)} (h : A1v lo H v ss) (hc : Chg q H H') (hq : q < lo) : A1v lo H' v ss := by
 obtain ⟨b, vs, h1, h2, h3⟩ := h; refine ⟨b, vs, h1, h2.chg hc (by omega), fun i p hp => ?_⟩; obtain ⟨s, c, g1, g2, g3⟩ := h3 i p hp; exact ⟨s, c, g1, g2, G8.chg g3 hc (by omega)⟩
theorem A1v.ext {lo : Nat} {H H' : A1} {v : Value} {ss : List (List Tm)} (h : A1v lo H v ss) (hx : Ext H H') : A1v lo H' v ss := by
 obtain ⟨b, vs, h1, h2, h3⟩ := h; refine ⟨b, vs, h1, h2.ext hx, fun i p hp => ?_⟩; obtain ⟨s, c, g1, g2, g3⟩ := h3 i p hp; exact ⟨s, c, g1, g2, G8.ext g3 hx⟩
theorem A1v.low {lo lo' : Nat} {H : A1} {v : Value} {ss : List (List Tm)} (h : A1v lo H v ss) (hl : lo' ≤ lo) : A1v lo' H v ss := by
 obtain ⟨b, vs, h1, h2, h3⟩ := h; refine ⟨b, vs, by omega, h2, fun i p hp => ?_⟩; obtain ⟨s, c, g1, g2, g3⟩ := h3 i p hp; exact ⟨s, c, g1, by omega, g3⟩
theorem A1v.slss {lo : Nat} {H : A1} {v : Value} {ss : List (List Tm)} (h : A1v lo H v ss) : l3 H v ss := by
 obtain ⟨b, vs, h1, h2, h3⟩ := h; refine ⟨vs, h2.sl, fun i p hp => ?_⟩; obtain ⟨s, c, g1, g2, g3⟩ := h3 i p hp; exact ⟨s, g1, Vec.sl g3⟩
theorem A4l.sysL {H : A1} {lo b : Nat} {vs : List Value} {bs : List Nat} {v : Value} {ss : List (List Tm)} (h : A4l H lo b vs bs v ss) : A1v lo H v ss := by
 obtain ⟨h1, h2, hnil, h3, h4, h5, h6, h7, h8⟩ := h; refine ⟨b, vs, h3, h1, fun i p hp => ?_⟩; obtain ⟨s, c, g1, g2, g3⟩ := h8 i p hp; have := h7 c (List.mem_of_getElem? g2); exact ⟨s, c, g1, by omega, g3⟩
theorem B8a (lim q m : Nat) (B : A1) (s : Value) (l : List Int) (H : A1) (hl : lim ≤ B.next) (hs : SlB B s l) (hc : Cu B H q s m) (hm : m ≤ 2600000000000000000) :
 A5 Tryz.prog lim A3t [Ptr q] H fun v H' => (∃ ss, A1v H.next H' v ss ∧ SmS ss) ∧ Cu B H' q s (m + 6000) ∧ Chg q H H' := by
 have hqH := hc.lt; have hBq := hc.ge; refine A28.go rfl ?_; unfold Y9; refine A0 ?_; simp only [sS]; have f2 : C9 [.int .i64 0, .int .i64 0, .int .i64 0, .int .i64 0, .int .i64 0] [(0, 1, .int .i64 1), (1, 1, .int .i64 2), (2, 1, .int .i64 2), (3, 1, .int .i64 2), (4, 1, .int .i64 3)] = some (([1, 2, 2, 2, 3] : List Int).map vi) := by simp [C9, C2, F8]
 refine A0 ?_; simp only [sS, I0 f2]; refine (F0 lim q m B s l [1, 2, 2, 2, 3] H hl hs hc (by omega) (by simp) (by simp)).mono ?_; rintro _ H1 ⟨⟨n, hnm, rfl⟩, hc1, hch1⟩; obtain ⟨n, rfl, hn1, hn3⟩ : ∃ n' : Nat, n = n' ∧ 1 ≤ n' ∧ n' ≤ 3 := by
  simp at hnm; exact ⟨n.toNat, by omega, by omega, by omega⟩
 simp only [sS]; refine A0 ?_; simp only [sS]; refine (C0m lim q (m + 2) B s l n H1 hl hs hc1 (by omega) (by omega)).mono ?_; rintro v H2 ⟨⟨b, vs, bs, ss, hG, hlen, hsm⟩, hc2, hch2⟩; have hl1 := hc1.lt; simp only [sS]; refine C7 (A0 ?_); simp only [sS]; refine (J3 lim q (m + 2402) B s l 30 H2 hl hs hc2 (by omega) (by omega)).mono ?_; rintro _ H3 ⟨⟨k, rfl, hk0, hk1⟩, hc3, hch3⟩; have hch03 := hch1.trans (hch2.trans hch3); have hn1' := hch1.next; have hn2' := hch2.next; have hn3' := hch3.next; simp only [sS]; refine A7 ?_; refine D0 (k == 0) ?_ (fun hg => ?_) (fun hg => ?_)
 ·simp only [sS]; simp
 ·refine A4 ?_; simp only [sS]; refine (J3 lim q (m + 2404) B s l n H3 hl hs hc3 (by omega) (by omega)).mono ?_; rintro _ H4 ⟨⟨i, rfl, hi0, hi1⟩, hc4, hch4⟩; simp only [sS]; refine (B51 lim q (m + 2406) B s l 3 H4 hl hs hc4 (by omega) (by omega)).mono ?_; rintro v5 H5 ⟨⟨p, c, hpc1, hpc2, hpv, hpl⟩, hc5, hch5⟩; have hn4' := hch4.next; have hn5' := hch5.next; have hlow := hG.low; have hbne : b ≠ q := by omega
  have hbH : b < H2.next := hG.hi (by intro h; rw [h] at hlen; simp at hlen; omega); obtain ⟨i, rfl⟩ : ∃ i' : Nat, i = i' := ⟨i.toNat, by omega⟩; have hilt : i < ss.length := by omega
  have hch35 := hch3.trans (hch4.trans hch5); have hvec : Vec H5 b v ss.length 1 vs := hG.vec.chg hch35 hbne; obtain ⟨cs, st1, st2⟩ := Vec.put1 (lim := lim) hvec (by omega) (Vec.cellsV hpv) hilt; have hiad : F1 1 v (.int .i64 i) = some (.pointer (some ⟨b, i, none⟩)) := by
   have := Vec.iad hvec .i64 (i := i) hilt
   rwa [Nat.mul_one] at this
  simp only [sS, hiad, st1]; simp +decide only [sQ]; have hchp := Chg.put b H5 cs; refine A0 ?_; simp only [sS]; refine A3 ?_; simp +decide only [sQ]; refine ⟨⟨ss.set i p, ⟨b, vs.set i v5, by omega, by rw [List.length_set]; exact st2, fun j r hr => ?_⟩, ⟨by rw [List.length_set]; exact hsm.1, fun y hy => ?_⟩⟩, Cu.le (hc5.chg hchp (by omega) (by omega)) (by omega), Chg.above (hch03.trans (hch4.trans hch5)) hchp (by omega)⟩
  ·have hvl := hvec.clen; by_cases hji : i = j
   ·subst hji; rw [List.getElem?_set_self hilt] at hr; cases hr; exact ⟨v5, c, by rw [List.getElem?_set_self (by omega)], by omega, G8.chg hpv hchp (by omega)⟩
   ·rw [List.getElem?_set_ne hji] at hr; obtain ⟨s', c', q1, q2, q3⟩ := hG.el j r hr; have hcm := List.mem_of_getElem? q2; have := hG.rngs c' hcm; exact ⟨s', c', by rw [List.getElem?_set_ne hji]; exact q1, by omega, G8.chg (G8.chg q3 hch35 (by omega)) hchp (fun e => hG.nin (e ▸ hcm))⟩
  ·rcases List.mem_or_eq_of_mem_set hy with h | h
   ·exact hsm.2 y h
   ·subst h; omega
 have hS3 : A1v H.next H3 v ss := (hG.sysL.low (by omega)).chg hch3 (by omega); refine D0 (k == 1) ?_ (fun hg => ?_) (fun hg => ?_)
 ·simp only [sS]; simp
 ·refine A0 ?_; simp only [sS]; refine A3 ?_; simp +decide only [sQ]; exact ⟨⟨[], ⟨H3.next, [], by omega, Vec.nil _ _ _, by simp⟩, ⟨by simp, by simp⟩⟩, hc3.le (by omega), hch03⟩
 refine D0 (k == 2) ?_ (fun hg => ?_) (fun hg => ?_)
 ·simp only [sS]; simp
 ·refine A0 ?_; simp only [sS]; refine (C0m lim q (m + 2404) B s l 4 H3 hl hs hc3 (by omega) (by omega)).mono ?_; rintro v4 H4 ⟨⟨b4, vs4, bs4, ss4, hG4, _, hsm4⟩, hc4, hch4⟩; simp only [sS]; refine A3 ?_; simp +decide only [sQ]; exact ⟨⟨ss4, hG4.sysL.low (by omega), hsm4⟩, hc4.le (by omega), hch03.trans hch4⟩
 refine A2 ?_; simp +decide only [sQ]; refine A0 ?_; simp only [sS]; refine A3 ?_; simp +decide only [sQ]; exact ⟨⟨ss, hS3, hsm⟩, hc3.le (by omega), hch03⟩
def Z7 (lo : Nat) (H : A1) (v : Value) : Prop := ∃ p b, lo ≤ b ∧ G8 H b v p ∧ p.length ≤ 1000
theorem Z7.chg {lo q : Nat} {H H' : A1} {v : Value} (h : Z7 lo H v) (hc : Chg q H H') (hq : q < lo) : Z7 lo H' v := by
 obtain ⟨p, b, h1, h2, h3⟩ := h; exact ⟨p, b, h1, G8.chg h2 hc (by omega), h3⟩
theorem Z7.ext {lo : Nat} {H H' : A1} {v : Value} (h : Z7 lo H v) (hx : Ext H H') : Z7 lo H' v := by
 obtain ⟨p, b, h1, h2, h3⟩ := h; exact ⟨p, b, h1, G8.ext h2 hx, h3⟩
theorem Z7.low {lo lo' : Nat} {H : A1} {v : Value} (h : Z7 lo H v) (hl : lo' ≤ lo) : Z7 lo' H v := by
 obtain ⟨p, b, h1, h2⟩ := h; exact ⟨p, b, by omega, h2⟩
theorem B6g {lo : Nat} {H : A1} {v : Value} (h : ∃ p b, lo ≤ b ∧ b ≤ H.next ∧ G8 H b v p ∧ I1 p = true) : Z7 lo H v := by
 obtain ⟨p, b, h1, _, h2, h3⟩ := h; obtain ⟨p20, _⟩ := A60 h3; exact ⟨p, b, h1, h2, by omega⟩
theorem C7w {lim lo r q m : Nat} {B H H' : A1} {s x bx : Value} (hp : Z7 lo H' x) (hb : S4 lo H' bx) (hz : H'.blk r = some z3) (hlim : lim ≤ r) (hr : r < lo) (hrH : H.next ≤ r) (hBr : B.next ≤ r) (hqr : q < r) (hc : Cu B H' q s m) (hch : Chg q H H') :
 ∃ H'', C8 lim H' 3 (Ptr r) bx = some (undef, H'') ∧ D5 H'' 3 (Ptr r) = some bx ∧ Z7 lo H'' x ∧ S4 lo H'' bx ∧ Cu B H'' q s m ∧ Chg q H H'' := by
 obtain ⟨k, s1, t1, rfl⟩ := hb.form; have hchp := Chg.put r H' [.int .i64 k, s1, t1]; exact ⟨_, L5 hlim hz, F9 (D3 _ _ _), hp.chg hchp hr, hb.chg hchp hr, hc.chg hchp hBr (by omega), Chg.above hch hchp hrH⟩
theorem A8j (lim q m : Nat) (B : A1) (s : Value) (l : List Int) (H : A1) (hl : lim ≤ B.next) (hs : SlB B s l) (hc : Cu B H q s m) (hm : m ≤ 2400000000000000000) :
 A5 Tryz.prog lim V9 [Ptr q] H fun v H' => (∃ x bx, v = .tuple #[x, bx] ∧ Z7 H.next H' x ∧ S4 H.next H' bx) ∧ Cu B H' q s (m + 3000) ∧ Chg q H H' := by
 have hqH := hc.lt; have hBq := hc.ge; refine A2m.go rfl ?_; unfold V8; refine A0 ?_; simp only [sS]; have hx := Ext.alloc H z3; have hr2 : (H.alloc z3).blk H.next = some z3 := A6 _ _; have hnA : (H.alloc z3).next = H.next + 1 := rfl; generalize H.alloc z3 = HA at hx hr2 hnA ⊢; have hcA := hc.of_ext hx; refine A0 ?_; simp only [sS]; refine (B61 lim q m B s l HA hl hs hcA (by omega)).mono ?_; rintro _ HB ⟨⟨n, rfl, hn1, hn3⟩, hcB, hchB⟩; have hnB := hchB.next; have hr2B := hchB.kept hr2 (by omega) (by omega); simp only [sS]; refine C7 (A0 ?_); simp only [sS]; refine (J3 lim q _ B s l 24 HB hl hs hcB (by omega) (by omega)).mono ?_; rintro _ H2 ⟨⟨sw, rfl, _, _⟩, hc2, hch2⟩; have hn2 := hch2.next; have hr22 := hch2.kept hr2B (by omega) (by omega); have hch02 : Chg q H H2 := (Chg.of_ext hx).trans (hchB.trans hch2); simp only [sS]; have fin : ∀ (H' : A1) (x bx : Value), Z7 HA.next H' x → S4 HA.next H' bx → Chg q H2 H' → Cu B H' q s (m + 3000) →
  ∃ H'', C8 lim H' 3 (Ptr H.next) bx = some (undef, H'') ∧ D5 H'' 3 (Ptr H.next) = some bx ∧ (∃ x' bx', (.tuple #[x, bx] : Value) = .tuple #[x', bx'] ∧ Z7 H.next H'' x' ∧ S4 H.next H'' bx') ∧ Cu B H'' q s (m + 3000) ∧ Chg q H H'' := by
  intro H' x bx hp hb hch hcu; obtain ⟨H'', f1, f2, f3, f4, f5, f6⟩ := C7w (lim := lim) (r := H.next) (q := q) (H := H) hp hb (hch.kept hr22 (by omega) (by omega)) (by omega) (by omega) (Nat.le_refl _) (by omega) hqH hcu (hch02.trans hch); exact ⟨H'', f1, f2, ⟨x, bx, rfl, f3.low (by omega), f4.low (by omega)⟩, f5, f6⟩
 refine C1v (fun e' H' => H' = H2 ∧ e' = [Ptr q, .slice none 0 0, Ptr H.next, .int .i64 n, undef, .int .i64 sw]) ?_ ?_; rotate_left
 ·rintro e' H' ⟨rfl, rfl⟩; refine A0 ?_; simp only [sS]; refine (A9u lim q _ B s l n H' hl hs hc2 (by omega) (by omega)).mono ?_; rintro x H3 ⟨hp, hc3, hch3⟩; have hp3 := B6g hp; have hn3' := hch3.next; simp only [sS]; refine (A20 lim q _ B s l n H3 hl hs hc3 (by omega) (by omega)).mono ?_; rintro bx H4 ⟨hb, hc4, hch4⟩; obtain ⟨H5, f1, f2, f3, f4, f5⟩ := fin H4 x bx ((hp3.low (by omega)).chg hch4 (by omega)) ((hb.boxA (by omega)).low (by omega)) (hch3.trans hch4) (hc4.le (by omega)); simp only [sS, f1]; refine A3 ?_; simp +decide only [sQ, f2]; exact ⟨f3, f4, f5⟩
 refine A8 ?_; refine D0 (sw == 0) ?_ (fun hg => ?_) (fun hg => ?_)
 ·simp only [sS]; simp
 ·refine A0 ?_; simp only [sS]; refine (B51 lim q _ B s l n H2 hl hs hc2 (by omega) (by omega)).mono ?_; rintro x H3 ⟨⟨p, b, p1, p2, p3, p4⟩, hc3, hch3⟩; have hp3 : Z7 H2.next H3 x := ⟨p, b, p1, p3, p4⟩; have hn3' := hch3.next; simp only [sS]; refine (B98 lim q _ B s l n H3 hl hs hc3 (by omega) (by omega) (by omega)).mono ?_; rintro bx H4 ⟨hb, hc4, hch4⟩; obtain ⟨H5, f1, f2, f3, f4, f5⟩ := fin H4 x bx ((hp3.low (by omega)).chg hch4 (by omega)) (hb.low (by omega)) (hch3.trans hch4) (hc4.le (by omega)); simp only [sS, f1]; refine A3 ?_; simp +decide only [sQ, f2]; exact ⟨f3, f4, f5⟩
 refine D0 (sw == 1) ?_ (fun hg => ?_) (fun hg => ?_)
 ·simp only [sS]; simp
 ·refine A0 ?_; simp only [sS]; refine (A9u lim q _ B s l 3 H2 hl hs hc2 (by omega) (by omega)).mono ?_; rintro x H3 ⟨hp, hc3, hch3⟩; have hp3 := B6g hp; have hn3' := hch3.next; simp only [sS]; refine (B61 lim q _ B s l H3 hl hs hc3 (by omega)).mono ?_; rintro _ H4 ⟨⟨n2, rfl, k1, k3⟩, hc4, hch4⟩; have hn4' := hch4.next; simp only [sS]; refine (A20 lim q _ B s l n2 H4 hl hs hc4 (by omega) (by omega)).mono ?_; rintro bx H5 ⟨hb, hc5, hch5⟩; obtain ⟨H6, f1, f2, f3, f4, f5⟩ := fin H5 x bx ((hp3.low (by omega)).chg (hch4.trans hch5) (by omega)) ((hb.boxA (by omega)).low (by omega)) (hch3.trans (hch4.trans hch5)) (hc5.le (by omega)); simp only [sS, f1]; refine A3 ?_; simp +decide only [sQ, f2]; exact ⟨f3, f4, f5⟩
 refine D0 (sw == 2) ?_ (fun hg => ?_) (fun hg => ?_)
 ·simp only [sS]; simp
 ·-- the widest one
  have ft1 : C9 z4 [(0, 1, .int .i64 1000), (3, 1, .int .i64 4)] = some (tc ⟨1000, 0, 0, 4⟩) := by simp [C9, C2, F8, tc]
  have ft2 : C9 z4 [(0, 1, .int .i64 (-1000)), (2, 1, .int .i64 4)] = some (tc ⟨-1000, 0, 4, 0⟩) := by simp [C9, C2, F8, tc]
  have ft3 : C9 z4 [(0, 1, .int .i64 1000), (1, 1, .int .i64 4)] = some (tc ⟨1000, 4, 0, 0⟩) := by simp [C9, C2, F8, tc]
  have f12 : C9 [.int .i64 0, .int .i64 0, .int .i64 0, .int .i64 0, .int .i64 0, .int .i64 0, .int .i64 0, .int .i64 0, .int .i64 0, .int .i64 0, .int .i64 0, .int .i64 0] [(0, 4, .agg (tc ⟨1000, 0, 0, 4⟩).toArray), (4, 4, .agg (tc ⟨-1000, 0, 4, 0⟩).toArray), (8, 4, .agg (tc ⟨1000, 4, 0, 0⟩).toArray)] = some (tcs [⟨1000, 0, 0, 4⟩, ⟨-1000, 0, 4, 0⟩, ⟨1000, 4, 0, 0⟩]) := by simp [C9, C2, F8, tc, tcs]
  have fl : C9 [.int .i64 0, .int .i64 0, .int .i64 0] [(0, 1, .int .i64 (-128)), (1, 1, .int .i64 (-128)), (2, 1, .int .i64 127)] = some [vi (-128), vi (-128), vi 127] := by simp [C9, C2, F8]
  have fu : C9 [.int .i64 0, .int .i64 0, .int .i64 0] [(0, 1, .int .i64 128), (1, 1, .int .i64 (-127)), (2, 1, .int .i64 128)] = some [vi 128, vi (-127), vi 128] := by simp [C9, C2, F8]
  refine A0 ?_; simp only [sS, ft1, ft2, ft3, I0 f12]; have hx3 := Ext.alloc H2 (tcs [⟨1000, 0, 0, 4⟩, ⟨-1000, 0, 4, 0⟩, ⟨1000, 4, 0, 0⟩]); have hp3 : G8 (H2.alloc (tcs [⟨1000, 0, 0, 4⟩, ⟨-1000, 0, 4, 0⟩, ⟨1000, 4, 0, 0⟩])) H2.next (.slice (some ⟨H2.next, 0, some 0⟩) 3 3) [⟨1000, 0, 0, 4⟩, ⟨-1000, 0, 4, 0⟩, ⟨1000, 4, 0, 0⟩] := Vec.lit (by simp [tcs, tc]); have hn3' : (H2.alloc (tcs [⟨1000, 0, 0, 4⟩, ⟨-1000, 0, 4, 0⟩, ⟨1000, 4, 0, 0⟩])).next = H2.next + 1 := rfl; generalize H2.alloc (tcs [⟨1000, 0, 0, 4⟩, ⟨-1000, 0, 4, 0⟩, ⟨1000, 4, 0, 0⟩]) = H3 at hx3 hp3 hn3' ⊢; simp only [sS, I0 fl]; have hx4 := Ext.alloc H3 [vi (-128), vi (-128), vi 127]; have hv4 : C0 (H3.alloc [vi (-128), vi (-128), vi 127]) H3.next (.slice (some ⟨H3.next, 0, some 0⟩) 3 3) [-128, -128, 127] := C0.lit H3 [-128, -128, 127]; have hn4' : (H3.alloc [vi (-128), vi (-128), vi 127]).next = H3.next + 1 := rfl; generalize H3.alloc [vi (-128), vi (-128), vi 127] = H4 at hx4 hv4 hn4' ⊢; simp only [sS, I0 fu]; have hx5 := Ext.alloc H4 [vi 128, vi (-127), vi 128]; have hv5 : C0 (H4.alloc [vi 128, vi (-127), vi 128]) H4.next (.slice (some ⟨H4.next, 0, some 0⟩) 3 3) [128, -127, 128] := C0.lit H4 [128, -127, 128]; have hn5' : (H4.alloc [vi 128, vi (-127), vi 128]).next = H4.next + 1 := rfl; generalize H4.alloc [vi 128, vi (-127), vi 128] = H5 at hx5 hv5 hn5' ⊢; have hf : C9 z3 [(0, 1, .int .i64 4), (1, 1, .slice (some ⟨H3.next, 0, some 0⟩) 3 3), (2, 1, .slice (some ⟨H4.next, 0, some 0⟩) 3 3)] = some [.int .i64 4, .slice (some ⟨H3.next, 0, some 0⟩) 3 3, .slice (some ⟨H4.next, 0, some 0⟩) 3 3] := by simp [C9, C2, F8]
  have hx25 := hx3.trans (hx4.trans hx5); obtain ⟨H6, f1, f2, f3, f4, f5⟩ := fin H5 (.slice (some ⟨H2.next, 0, some 0⟩) 3 3) (.agg #[.int .i64 4, .slice (some ⟨H3.next, 0, some 0⟩) 3 3, .slice (some ⟨H4.next, 0, some 0⟩) 3 3]) ⟨_, H2.next, by omega, G8.ext hp3 (hx4.trans hx5), by simp⟩ ⟨4, _, _, H3.next, H4.next, _, _, rfl, by omega, by omega, Vec.ext hv4 hx5, hv5, by simp, by simp⟩ (Chg.of_ext hx25) ((hc2.of_ext hx25).le (by omega)); simp only [sS, hf, f1]; refine A3 ?_; simp +decide only [sQ, f2]; exact ⟨f3, f4, f5⟩
 refine D0 (sw == 3) ?_ (fun hg => ?_) (fun hg => ?_)
 ·simp only [sS]; simp
 ·-- a box too fine
  refine A0 ?_; simp only [sS]; refine (A20 lim q _ B s l n H2 hl hs hc2 (by omega) (by omega)).mono ?_; rintro _ H3 ⟨⟨k, bs, bt, b, c, low, high, rfl, hb, hcc, hbc, hv, hw, hll, hhl⟩, hc3, hch3⟩; have hn3' := hch3.next; have st0 : C8 lim (H3.alloc z3) 3 (.pointer (some ⟨H3.next, 0, none⟩)) (.agg #[.int .i64 k, bs, bt]) = some (undef, H3.alloc [.int .i64 k, bs, bt]) := E7 (by omega); simp only [sS, st0]; have hbB : b < H3.next := (hv.blk (by omega)).elim fun _ h => h.2
  have hcB' : c < H3.next := (hw.blk (by omega)).elim fun _ h => h.2
  have hx4 := Ext.alloc H3 [.int .i64 k, bs, bt]; have hbk4 : (H3.alloc [.int .i64 k, bs, bt]).blk H3.next = some [.int .i64 k, bs, bt] := A6 _ _; have hn4' : (H3.alloc [.int .i64 k, bs, bt]).next = H3.next + 1 := rfl; generalize H3.alloc [.int .i64 k, bs, bt] = H4 at hx4 hbk4 hn4' ⊢; have hv4 : C0 H4 b bs low := Vec.ext hv hx4; have hw4 : C0 H4 c bt high := Vec.ext hw hx4; have hc4 := hc3.of_ext hx4; have hch4 := hch3.more hx4; have hst4 : C8 lim H4 1 (.pointer (some ⟨H3.next, 0, none⟩)) (.int .i64 5) = some (undef, H4.put H3.next [.int .i64 5, bs, bt]) := S3 (o := 0) rfl (by omega) hbk4 (by simp); refine A0 ?_; simp only [sS, Nat.add_zero, hst4]; have hchp := Chg.put H3.next H4 [.int .i64 5, bs, bt]; have hbk5 : (H4.put H3.next [.int .i64 5, bs, bt]).blk H3.next = some [.int .i64 5, bs, bt] := D3 _ _ _; have hn5' : (H4.put H3.next [.int .i64 5, bs, bt]).next = H4.next := rfl; generalize H4.put H3.next [.int .i64 5, bs, bt] = H5 at hchp hbk5 hn5' ⊢; have hv5 : C0 H5 b bs low := Vec.chg hv4 hchp (by omega); have hw5 : C0 H5 c bt high := Vec.chg hw4 hchp (by omega); have hc5 := hc4.chg hchp (by omega) (by omega); have hch5 : Chg q H2 H5 := Chg.above hch4 hchp (by omega); have i1 : F1 1 bs (.int .i64 0) = some (.pointer (some ⟨b, 0, none⟩)) := by have := Vec.iad hv5 .i64 (i := 0) (by omega); simpa using this
  have i2 : F1 1 bt (.int .i64 0) = some (.pointer (some ⟨c, 0, none⟩)) := by have := Vec.iad hw5 .i64 (i := 0) (by omega); simpa using this
  have cell0 : ∀ {G : A1} {b : Nat} {v : Value} {w : List Int}, C0 G b v w → w.length = n → ∃ y : Int, G.cell b 0 = some (.int .i64 y) := by
   intro G b v w h hl; obtain ⟨rest, h1, _⟩ := h.blk (by omega); rw [B7 h1]; cases w with
   | nil => simp at hl; omega
   | cons x r => exact ⟨x, rfl⟩
  obtain ⟨y0, hy0⟩ := cell0 hv5 hll; obtain ⟨cs, hcs⟩ : ∃ cs : Int → List Value, ∀ x, C8 lim H5 1 (.pointer (some ⟨b, 0, none⟩)) (.int .i64 x) = some (undef, H5.put b (cs x)) ∧ C0 (H5.put b (cs x)) b bs (low.set 0 x) := by
   have h : ∀ x : Int, ∃ cs, C8 lim H5 1 (.pointer (some ⟨b, 0, none⟩)) (.int .i64 x) = some (undef, H5.put b cs) ∧ C0 (H5.put b cs) b bs (low.set 0 x) := by
    intro x; obtain ⟨cs, s1, s2⟩ := Vec.put1 (lim := lim) hv5 (by omega) (i := 0) (x := .int .i64 x) rfl (by omega); refine ⟨cs, s1, ?_⟩; show Vec _ _ _ _ 1 _; rw [List.length_set, List.map_set]; exact s2
   exact ⟨fun x => (h x).choose, fun x => (h x).choose_spec⟩
  refine A0 ?_; simp only [sS, Nat.zero_add, B7 hbk5, i1, hy0]; refine (V7 _ _ _ _).use ?_; rintro _ HH ⟨rfl, hh⟩ _; subst HH; simp only [sS]; generalize (IntKind.i64.wrap ((BitVec.ofInt IntKind.i64.bits (if y0 > -255 then y0 else -255) ||| BitVec.ofInt IntKind.i64.bits 1).toNat : Int)) = X; obtain ⟨hs1, hs2⟩ := hcs X; simp only [sS, i1, hs1]; have hchq := Chg.put b H5 (cs X); have hn6' : (H5.put b (cs X)).next = H5.next := rfl; clear hcs; generalize H5.put b (cs X) = H6 at hchq hn6' hs2 ⊢; have hbk6 : H6.blk H3.next = some [.int .i64 5, bs, bt] := by rw [hchq.blk _ (by omega) (by omega)]; exact hbk5
  have hw6 : C0 H6 c bt high := Vec.chg hw5 hchq (by omega); have hc6 := hc5.chg hchq (by omega) (by omega); have hch6 : Chg q H2 H6 := Chg.above hch5 hchq (by omega); obtain ⟨y6, hy6⟩ := cell0 hs2 (by rw [List.length_set]; exact hll); obtain ⟨cs2, k1, k2⟩ := Vec.put1 (lim := lim) hw6 (by omega) (i := 0) (x := .int .i64 (IntKind.i64.wrap (y6 + 1))) rfl (by omega); have k2' : C0 (H6.put c cs2) c bt (high.set 0 (IntKind.i64.wrap (y6 + 1))) := by
   show Vec _ _ _ _ 1 _; rw [List.length_set, List.map_set]; exact k2
  refine A0 ?_; simp only [sS, Nat.zero_add, B7 hbk6, i1, i2, hy6, k1]; have hchr := Chg.put c H6 cs2; have hn7' : (H6.put c cs2).next = H6.next := rfl; generalize H6.put c cs2 = H7 at hchr hn7' k2' ⊢; have hbk7 : H7.blk H3.next = some [.int .i64 5, bs, bt] := by rw [hchr.blk _ (by omega) (by omega)]; exact hbk6
  have hv7 : C0 H7 b bs (low.set 0 X) := Vec.chg hs2 hchr (by omega); have hc7 := hc6.chg hchr (by omega) (by omega); have hch7 : Chg q H2 H7 := Chg.above hch6 hchr (by omega); have hbox : S4 HA.next H7 (.agg #[.int .i64 5, bs, bt]) := ⟨5, bs, bt, b, c, _, _, rfl, by omega, by omega, hv7, k2', by rw [List.length_set]; omega, by rw [List.length_set]; omega⟩; refine B7x ?_; simp only [sS, E9 hbk7]
  repeat' (with_reducible apply And.intro)
  all_goals (refine (A9u lim q _ B s l n H7 hl hs hc7 (by omega) (by omega)).mono ?_)
  all_goals (rintro x H8 ⟨hp, hc8, hch8⟩)
  all_goals (obtain ⟨H9, f1, f2, f3, f4, f5⟩ := fin H8 x (.agg #[.int .i64 5, bs, bt]) ((B6g hp).low (by omega)) (hbox.chg hch8 (by omega)) (hch7.trans hch8) (hc8.le (by omega)))
  all_goals (simp only [sS, E9 (hch8.kept hbk7 (by omega) (by omega)), f1])
  all_goals (repeat' (with_reducible apply And.intro))
  all_goals (refine A3 ?_)
  all_goals (simp +decide only [sQ, f2])
  all_goals (exact ⟨f3, f4, f5⟩)
 refine A2 ?_; simp +decide only [sQ]
end Go.Proofs.YtmdeppkfboaepaaGreat
namespace Go.Proofs.YtmdeppkfboaepaaGreat
open Go.Ab Ints
theorem C9x (c : Int) : C9 z4 [(0, 1, .int .i64 c)] = some (tc ⟨c, 0, 0, 0⟩) := by simp [C9, C2, tc]
theorem C9k (c k : Int) {n : Int} (h : 0 ≤ n ∧ n ≤ 4) : exB (wi ⟨c, 0, 0, 0⟩ k n) := by
 unfold wi exB; split
 ·simp; omega
 ·split <;> simp <;> omega
theorem D2j (c : Int) : exB ⟨c, 0, 0, 0⟩ := by unfold exB; simp
theorem B3r (lim q m : Nat) (B : A1) (s : Value) (l : List Int) (H : A1) (hl : lim ≤ B.next) (hs : SlB B s l) (hc : Cu B H q s m) (hm : m ≤ 1900000000000000000) :
 A5 Tryz.prog lim A5b [Ptr q] H fun v H' => (∃ x bx ss, v = .tuple #[x, bx] ∧ A1v H.next H' x ss ∧ SmS ss ∧ S4 H.next H' bx) ∧ Cu B H' q s (m + 4000000000000000) ∧ Chg q H H' := by
 have hqH := hc.lt; have hBq := hc.ge; refine A4b.go rfl ?_; unfold Z8; refine A0 ?_; simp only [sS]; have hx := Ext.alloc H z3; have hr2 : (H.alloc z3).blk H.next = some z3 := A6 _ _; have hnA : (H.alloc z3).next = H.next + 1 := rfl; generalize H.alloc z3 = HA at hx hr2 hnA ⊢; have hcA := hc.of_ext hx; have f4 : C9 [.int .i64 0, .int .i64 0, .int .i64 0, .int .i64 0] [(0, 1, .int .i64 1), (1, 1, .int .i64 2), (2, 1, .int .i64 2), (3, 1, .int .i64 3)] = some (([1, 2, 2, 3] : List Int).map vi) := by simp [C9, C2, F8]
 refine A0 ?_; simp only [sS, I0 f4]; refine (F0 lim q m B s l [1, 2, 2, 3] HA hl hs hcA (by omega) (by simp) (by simp)).mono ?_; rintro _ HB ⟨⟨n, hnm, rfl⟩, hcB, hchB⟩; obtain ⟨n, rfl, hn1, hn3⟩ : ∃ n' : Nat, n = n' ∧ 1 ≤ n' ∧ n' ≤ 3 := by
  simp at hnm; exact ⟨n.toNat, by omega, by omega, by omega⟩
 have hnB := hchB.next; have hr2B := hchB.kept hr2 (by omega) (by omega); have hchHB : Chg q H HB := (Chg.of_ext hx).trans hchB; have fin : ∀ (H' : A1) (x bx : Value) (ss : List (List Tm)), A1v HA.next H' x ss → SmS ss → S4 HA.next H' bx → H'.blk H.next = some z3 → Chg q H H' → Cu B H' q s (m + 4000000000000000) →
  ∃ H'', C8 lim H' 3 (Ptr H.next) bx = some (undef, H'') ∧ D5 H'' 3 (Ptr H.next) = some bx ∧ (∃ x' bx' ss', (.tuple #[x, bx] : Value) = .tuple #[x', bx'] ∧ A1v H.next H'' x' ss' ∧ SmS ss' ∧ S4 H.next H'' bx') ∧ Cu B H'' q s (m + 4000000000000000) ∧ Chg q H H'' := by
  intro H' x bx ss hp hsm hb hz hch hcu; obtain ⟨k, s1, t1, rfl⟩ := hb.form; have hchp := Chg.put H.next H' [.int .i64 k, s1, t1]; exact ⟨_, L5 (by omega) hz, F9 (D3 _ _ _), ⟨x, _, ss, rfl, (hp.chg hchp (by omega)).low (by omega), hsm, (hb.chg hchp (by omega)).low (by omega)⟩, hcu.chg hchp (by omega) (by omega), Chg.above hch hchp (Nat.le_refl _)⟩
 simp only [sS]; refine A9 ?_; simp only [sS]; refine (A30 lim q _ B s l 4 HB hl hs hcB (by omega) (by omega)).mono ?_; rintro _ H2 ⟨⟨w, rfl⟩, hc2, hch2⟩; have hn2 := hch2.next; have hr22 := hch2.kept hr2B (by omega) (by omega); have hch02 := hchHB.trans hch2; simp only [sS]; refine C4.split (fun hw => ?_) (fun hw => ?_)
 ·-- any system
  refine A0 ?_; simp only [sS]; refine (B8a lim q _ B s l H2 hl hs hc2 (by omega)).mono ?_; rintro x H3 ⟨⟨ss, hS, hsm⟩, hc3, hch3⟩; have hn3' := hch3.next; simp only [sS]; refine (A20 lim q _ B s l n H3 hl hs hc3 (by omega) hn3).mono ?_; rintro bx H4 ⟨hb, hc4, hch4⟩; obtain ⟨H5, f1, f2, f3, f4, f5⟩ := fin H4 x bx ss ((hS.low (by omega)).chg hch4 (by omega)) hsm ((hb.boxA hn3).low (by omega)) ((hch3.trans hch4).kept hr22 (by omega) (by omega)) (hch02.trans (hch3.trans hch4)) (hc4.le (by omega)); simp only [sS, f1]; refine A3 ?_; simp +decide only [sQ, f2]; exact ⟨f3, f4, f5⟩
 refine A2 ?_; simp +decide only [sQ]; clear hw hcB hcA hnm hr2B hr2; refine A0 ?_; simp only [sS]; refine (C9c lim q _ B s l n H2 hl hs hc2 (by omega) ⟨hn1, hn3⟩).mono ?_; rintro vo H3 ⟨⟨bo, O, hvo, hbo, hO1, hO2⟩, hc3, hch3⟩; have hn3' := hch3.next; have hr23 := hch3.kept hr22 (by omega) (by omega); have hch03 := hch02.trans hch3; have hbo3 : bo < H3.next := (hvo.blk (by omega)).elim fun _ h => h.2
 have hcX := hc3.le (m' := m + 3100000000000000) (by omega); clear hc3 hch3 hc2 hch2; simp only [sS]; refine A0 ?_; simp only [sS]; refine C7 (A0 ?_); simp only [sS]; refine A7 ?_; refine B9 (fun j e' H' => ∃ (b : Nat) (vs : List Value) (bs : List Nat) (v x7 x8 : Value) (ss : List (List Tm)), ss.length + j = n ∧ SmS ss ∧ A4l H' H3.next b vs bs v ss ∧ C0 H' bo vo O ∧ H'.blk H.next = some z3 ∧ H3.next ≤ H'.next ∧ Cu B H' q s (m + 3100000000000000 + 20 * ss.length) ∧ Chg q H H' ∧ e' = [Ptr q, .slice none 0 0, Ptr H.next, .int .i64 n, vo, v, .int .i64 ss.length, x7, x8, undef, undef, undef, undef]) n ⟨H3.next, [], [], _, _, _, [], by simp, ⟨by simp, by simp⟩, A4l.nil' H3, hvo, hr23, Nat.le_refl _, hcX, hch03, rfl⟩ ?_; rintro j e' H' ⟨b, vs, bs, v, x7, x8, ss, hj, hsm, hG, hvo', hr', hn', hcu, hch, rfl⟩; refine A9 ?_; simp only [sS]; refine C4.split (fun hlt => ?_) (fun hlt => ?_)
 ·have hlt' : ss.length < n := by have := of_decide_eq_true hlt; omega
  refine A2 ?_; simp +decide only [sQ]; refine A7 ?_; refine A0 ?_; simp only [sS]; have w1 : IntKind.i64.wrap ((n : Int) - 1) = (n : Int) - 1 := E3 (by omega) (by omega); obtain ⟨b1, o1, g1, _, g2⟩ := SlI.get hvo'.sl (i := ss.length) (by omega); generalize O[ss.length]'(by omega) = oi at g2; refine N9 (fun e' H2 => H2 = H' ∧ ∃ kk : Int, e' = [Ptr q, .slice none 0 0, Ptr H.next, .int .i64 n, vo, v, .int .i64 ss.length, .int .i64 kk, x8, undef, undef, undef, undef]) ?_ ?_
  ·refine D0 (decide (0 ≤ oi) && decide (oi ≤ (n : Int) - 1)) ?_ (fun hg => ?_) (fun hg => ?_)
   ·simp only [sS, g1, g2, w1]; refine (L6 _ _ _ _ _).eq ?_; simp only [sS]; exact ⟨trivial, trivial, trivial⟩
   ·refine A4 ?_; simp only [sS, g1, g2]; simp +decide only [sQ]; exact ⟨trivial, oi, rfl⟩
   ·refine A2 ?_; simp +decide only [sQ]; exact ⟨trivial, _, rfl⟩
  rintro e' H2 ⟨rfl, kk, rfl⟩; have fa : C9 [.int .i64 0, .int .i64 0, .int .i64 0] [(0, 1, .int .i64 4), (1, 1, .int .i64 (-4)), (2, 1, .int .i64 3)] = some (([4, -4, 3] : List Int).map vi) := by simp [C9, C2, F8]
  refine A0 ?_; simp only [sS, I0 fa]; refine (F0 lim q _ B s l [4, -4, 3] H2 hl hs hcu (by omega) (by simp) (by simp)).mono ?_; rintro _ H4 ⟨⟨C, _, rfl⟩, hc4, hch4⟩; have hn4 := hch4.next; simp only [sS, C9x]; refine (B2p lim ⟨C, 0, 0, 0⟩ kk 1 H4 (by omega)).mono ?_; rintro _ H5 ⟨rfl, hx5⟩; have hn5 := hx5.next; simp only [sS, C1r]; have hx6 := Ext.alloc H5 (tc (wi ⟨C, 0, 0, 0⟩ kk 1)); have hp6 : G8 (H5.alloc (tc (wi ⟨C, 0, 0, 0⟩ kk 1))) H5.next (.slice (some ⟨H5.next, 0, some 0⟩) 1 1) [wi ⟨C, 0, 0, 0⟩ kk 1] := Vec.lit (by simp [tc]); have hn6 : (H5.alloc (tc (wi ⟨C, 0, 0, 0⟩ kk 1))).next = H5.next + 1 := rfl; generalize H5.alloc (tc (wi ⟨C, 0, 0, 0⟩ kk 1)) = H6 at hx6 hp6 hn6 ⊢; have hc6 := hc4.of_ext (hx5.trans hx6); have hch6 := (hch4.more hx5).more hx6; have he6 : ∀ x ∈ [wi ⟨C, 0, 0, 0⟩ kk 1], exB x := by
   intro x hx; simp at hx; subst hx; exact C9k C kk (by omega)
  generalize hP : [wi ⟨C, 0, 0, 0⟩ kk 1] = P at hp6 he6; have hPl : P.length = 1 := by rw [← hP]; rfl
  clear hP; refine A0 ?_; simp only [sS]; refine (J3 lim q _ B s l 9 H6 hl hs hc6 (by omega) (by omega)).mono ?_; rintro _ H7 ⟨⟨y, rfl, hy0, hy1⟩, hc7, hch7⟩; have hn7 := hch7.next; have w4 : IntKind.i64.wrap (y - 4) = y - 4 := E3 (by omega) (by omega); have hp7 := G8.chg hp6 hch7 (by omega); simp only [sS, w4, C9x]; refine (C1l lim _ P ⟨y - 4, 0, 0, 0⟩ H7 (by omega) hp7.sl (by omega) he6 (D2j _)).mono ?_; rintro v8 H8 ⟨c8, k1, k2, hp8, hx8⟩; have hn8 := hx8.next; have he8 := C30 (D2j (y - 4)) he6; have hl8 := A18 ⟨y - 4, 0, 0, 0⟩ P; generalize A58 ⟨y - 4, 0, 0, 0⟩ P = P8 at hp8 he8 hl8; have hc8 := hc7.of_ext hx8; have hch8 := (hch6.trans hch7).more hx8; simp only [sS]; refine N9 (fun e' H9 => ∃ (P9 : List Tm) (c9 : Nat) (v9 : Value), G8 H9 c9 v9 P9 ∧ H2.next ≤ c9 ∧ c9 ≤ H9.next ∧ P9.length ≤ 3 ∧ Cu B H9 q s (m + 3100000000000000 + 20 * ss.length + 16) ∧ Chg q H2 H9 ∧ e' = [Ptr q, .slice none 0 0, Ptr H.next, .int .i64 n, vo, v, .int .i64 ss.length, .int .i64 kk, v9, undef, undef, undef, undef]) ?_ ?_
  ·refine E1 ?_; simp only [sS]; refine (A30 lim q _ B s l 2 H8 hl hs hc8 (by omega) (by omega)).mono ?_; rintro _ H9 ⟨⟨w2, rfl⟩, hc9, hch9⟩; have hn9 := hch9.next; have hp9 := G8.chg hp8 hch9 (by omega); simp only [sS]; refine C4.split (fun hw => ?_) (fun hw => ?_)
   ·have fb : C9 [.int .i64 0, .int .i64 0] [(0, 1, .int .i64 1), (1, 1, .int .i64 (-1))] = some (([1, -1] : List Int).map vi) := by simp [C9, C2, F8]
    refine A4 ?_; simp only [sS, I0 fb]; refine (F0 lim q _ B s l [1, -1] H9 hl hs hc9 (by omega) (by simp) (by simp)).mono ?_; rintro _ HC ⟨⟨D, _, rfl⟩, hcC, hchC⟩; have hnC := hchC.next; simp only [sS, C9x]; refine (J3 lim q _ B s l n HC hl hs hcC (by omega) (by omega)).mono ?_; rintro _ HD ⟨⟨u, rfl, _, _⟩, hcD, hchD⟩; have hnD := hchD.next; simp only [sS]; refine (B2p lim ⟨D, 0, 0, 0⟩ u 2 HD (by omega)).mono ?_; rintro _ HE ⟨rfl, hxE⟩; have hnE := hxE.next; have hpE := G8.ext (G8.chg hp9 (hchC.trans hchD) (by omega)) hxE; simp only [sS]; refine (C1l lim _ P8 (wi ⟨D, 0, 0, 0⟩ u 2) HE (by omega) hpE.sl (by omega) he8 (C9k D u (by omega))).mono ?_; rintro vF HF ⟨cF, m1, m2, hpF, hxF⟩; have hnF := hxF.next; have hlF := A18 (wi ⟨D, 0, 0, 0⟩ u 2) P8; simp only [sS]; simp +decide only [sQ]; exact ⟨_, cF, vF, hpF, by omega, by omega, by omega, ((hcD.of_ext hxE).of_ext hxF).le (by omega), (((hch8.trans hch9).trans (hchC.trans hchD)).more hxE).more hxF, rfl⟩
   ·refine A2 ?_; simp +decide only [sQ]; exact ⟨P8, c8, v8, hp9, by omega, by omega, by omega, hc9.le (by omega), hch8.trans hch9, rfl⟩
  rintro e' H9 ⟨P9, c9, v9, hp9, m1, m2, m3, hc9, hch9, rfl⟩; have hn9 := hch9.next; obtain ⟨v', HF, b', b0, a1, a2, a3, a4⟩ := hG.pushQ (lim := lim) (q := q) (by omega) (by omega) hn' hch9 m1 m2 hp9 (by have := hsm.1; omega); have hnF := a4.next; refine A4 ?_; simp only [sS, C6c _ (Vec.cellsV hp9), a1]; simp +decide only [sQ]; refine A4 ?_; simp only [sS, D6 (i := ss.length) (by omega)]; simp +decide only [sQ]; refine C6.mk (j - 1) (by omega) ⟨b', _, _, v', .int .i64 kk, v9, ss ++ [P9], by simp; omega, ⟨by have := hsm.1; simp; omega, ?_⟩, a2, Vec.chg (Vec.chg hvo' hch9 (by omega)) a4 (by omega), ?_, by omega, ?_, Chg.above (hch.trans hch9) a4 (by omega), by rw [List.length_append]; rfl⟩
  ·intro y hy; rcases List.mem_append.1 hy with hy | hy
   ·exact hsm.2 y hy
   ·simp at hy; subst hy; omega
  ·rw [a4.blk _ (by omega) (by omega)]; exact hch9.kept hr' (by omega) (by omega)
  ·refine Cu.le (hc9.chg a4 (by omega) (by omega)) ?_; simp; omega
 have hi : ss.length = n := by have := of_decide_eq_false hlt; omega
 refine B8 ?_; simp +decide only [sQ, reduceIte]; clear hlt; have hS : A1v H3.next H' v ss := hG.sysL; have hcL := hcu.le (m' := m + 3100000000000100) (by omega); clear hcu; generalize hssl : (ss.length : Int) = ssl; refine A0 ?_; simp only [sS]; refine A7 ?_; refine B9 (fun j e' G => ∃ (i : Nat) (low high : List Int) (b c : Nat) (vl vh : Value), i + j = n ∧ low.length = i ∧ high.length = i ∧ (∀ y ∈ low, -10 ≤ y ∧ y ≤ 10) ∧ (∀ y ∈ high, -10 ≤ y ∧ y ≤ 10) ∧ C0 G b vl low ∧ C0 G c vh high ∧ H'.next ≤ b ∧ H'.next ≤ c ∧ (i = 0 ∧ vh = .slice none 0 0 ∨ b < G.next ∧ c < G.next ∧ b ≠ c) ∧ H'.next ≤ G.next ∧ Cu B G q s (m + 3100000000000100 + 4 * i) ∧ Chg q H' G ∧ e' = [Ptr q, .slice none 0 0, Ptr H.next, .int .i64 n, vo, v, .int .i64 ssl, x7, x8, vl, vh, undef, undef]) n ⟨0, [], [], H'.next, H'.next + 1, _, _, by omega, rfl, rfl, by simp, by simp, Vec.nil _ _ _, Vec.nil _ _ _, Nat.le_refl _, by omega, .inl ⟨rfl, rfl⟩, Nat.le_refl _, hcL, Chg.refl _ _, rfl⟩ ?_; rintro j e' G ⟨i, low, high, b, c, vl, vh, hij, hli, hhi, hlr, hhr, hvl, hvh, hb, hcc, hbc, hnG, hcu, hchG, rfl⟩; have hlen : O6 vl = some (.int .i64 i) := by have := hvl.lenV; rw [hli] at this; simpa using this
 refine A9 ?_; simp only [sS, hlen]; refine C4.split (fun hlt => ?_) (fun hlt => ?_)
 ·have hlt' : i < n := by have := of_decide_eq_true hlt; omega
  refine A2 ?_; simp +decide only [sQ]; refine A8 ?_; refine A0 ?_; simp only [sS]; refine (J3 lim q _ B s l 2 G hl hs hcu (by omega) (by omega)).mono ?_; rintro _ G1 ⟨⟨p1, rfl, hp10, hp11⟩, hc1, hch1⟩; have hnG1 := hch1.next; have wp : IntKind.i64.wrap (-3 - p1) = -3 - p1 := E3 (by omega) (by omega); have hv1 : C0 G1 b vl low := Vec.chg hvl hch1 (by omega); obtain ⟨v', G2, b', g1, g2, g3, g4, g5⟩ := C0.push (lim := lim) hv1 (-3 - p1) (by omega) (by omega); have hnG2 := g5.next; simp only [sS, wp, Q9, g1]; have hc2 := hc1.chg g5 (by omega) (by omega); have hb' : H'.next ≤ b' := by rcases g3 with rfl | g3 <;> omega
  refine A4 ?_; simp only [sS]; refine (J3 lim q _ B s l 2 G2 hl hs hc2 (by omega) (by omega)).mono ?_; rintro _ G3 ⟨⟨p2, rfl, hp20, hp21⟩, hc3, hch3⟩; have hnG3 := hch3.next; have wp2 : IntKind.i64.wrap (3 + p2) = 3 + p2 := E3 (by omega) (by omega); obtain ⟨c0, hw0, hc0, hcb0, hcn0⟩ : ∃ c0, C0 G3 c0 vh high ∧ H'.next ≤ c0 ∧ c0 ≠ b' ∧ (c0 < G3.next ∨ G3.next < c0) := by
   rcases hbc with ⟨hi0, rfl⟩ | ⟨hb1, hc1', hbc1⟩
   ·have : high = [] := List.length_eq_zero_iff.1 (by omega); subst this; exact ⟨G3.next + 5, Vec.nil _ _ _, by omega, by omega, .inr (by omega)⟩
   ·refine ⟨c, Vec.chg (Vec.chg (Vec.chg hvh hch1 (by omega)) g5 (by omega)) hch3 (by omega), hcc, ?_, .inl (by omega)⟩; rcases g3 with rfl | g3 <;> omega
  obtain ⟨w', G4, c', k1, k2, k3, k4, k5⟩ := C0.push (lim := lim) hw0 (3 + p2) (by omega) (by omega); have hnG4 := k5.next; simp only [sS, wp2, Q9, k1]; simp +decide only [sQ]; refine C6.mk (j - 1) (by omega) ⟨i + 1, low ++ [-3 - p1], high ++ [3 + p2], b', c', v', w', by omega, by simp; omega, by simp; omega, ?_, ?_, Vec.chg (Vec.chg g2 hch3 (by omega)) k5 (by omega), k2, hb', by rcases k3 with rfl | k3 <;> omega, .inr ⟨by omega, k4, by rcases k3 with rfl | k3 <;> omega⟩, by omega, Cu.le (hc3.chg k5 (by omega) (by omega)) (by omega), Chg.above ((Chg.above (hchG.trans hch1) g5 hb).trans hch3) k5 (by omega), rfl⟩
  ·intro z hz; rcases List.mem_append.1 hz with hz | hz
   ·exact hlr z hz
   ·simp at hz; omega
  ·intro z hz; rcases List.mem_append.1 hz with hz | hz
   ·exact hhr z hz
   ·simp at hz; omega
 have hin : i = n := by have := of_decide_eq_false hlt; omega
 refine B8 ?_; simp +decide only [sQ, reduceIte]; have hSG := hS.chg hchG (by omega); have hrG := hchG.kept hr' (by omega) (by omega); have hchHG := hch.trans hchG; refine A0 ?_; simp only [sS]; refine (J3 lim q _ B s l 2 G hl hs hcu (by omega) (by omega)).mono ?_; rintro _ G1 ⟨⟨kp, rfl, hk0, hk1⟩, hc1, hch1⟩; obtain ⟨kp, rfl⟩ : ∃ k : Nat, kp = k := ⟨kp.toNat, by omega⟩; have hnG1 := hch1.next; have hv1 : C0 G1 b vl low := Vec.chg hvl hch1 (by omega); have hw1 : C0 G1 c vh high := Vec.chg hvh hch1 (by omega); simp only [sS]; refine (A3o lim kp vl vh low high G1 (by omega) hv1.sl hw1.sl (by omega) (by omega) (by omega) (fun y hy => by have := hlr y hy; omega) (fun y hy => by have := hhr y hy; omega)).mono ?_; rintro bv G2 ⟨hR, hx2⟩; have hnG2 := hx2.next; have hc2 := hc1.of_ext hx2; have hS2 := (hSG.chg hch1 (by omega)).ext hx2; have hr2' : G2.blk H.next = some z3 := by rw [hx2.blk _ (by omega)]; exact hch1.kept hrG (by omega) (by omega)
 have hch2 := (hchHG.trans hch1).more hx2; obtain ⟨nl1, nl2⟩ := A68 kp low high; obtain ⟨ok, y, r2, r3, rfl, hbA⟩ : ∃ (ok : Bool) (y : Int) (r2 r3 : Value), bv = .tuple #[.agg #[.int .i64 y, r2, r3], .bool ok] ∧ S4 HA.next G2 (.agg #[.int .i64 y, r2, r3]) := by
  rcases hR with ⟨_, rfl⟩ | ⟨_, s1, t1, b1, c1, rfl, hb1, hc1', hne, hv1, hw1⟩
  ·exact ⟨false, 0, _, _, rfl, 0, _, _, HA.next, HA.next, [], [], rfl, Nat.le_refl _, Nat.le_refl _, Vec.nil _ _ _, Vec.nil _ _ _, by simp, by simp⟩
  ·exact ⟨true, _, _, _, rfl, _, s1, t1, b1, c1, _, _, rfl, by omega, by omega, hv1, hw1, by show (D2 kp low high).2.1.length ≤ 3; omega, by show (D2 kp low high).2.2.length ≤ 3; omega⟩
 have st9 : C8 lim (G2.alloc z3) 3 (.pointer (some ⟨G2.next, 0, none⟩)) (.agg #[.int .i64 y, r2, r3]) = some (undef, G2.alloc [.int .i64 y, r2, r3]) := E7 (by omega); simp only [sS, st9]; have hx9 := Ext.alloc G2 [.int .i64 y, r2, r3]; have hn9 : (G2.alloc [.int .i64 y, r2, r3]).next = G2.next + 1 := rfl; have hb9 : (G2.alloc [.int .i64 y, r2, r3]).blk G2.next = some [.int .i64 y, r2, r3] := A6 _ _; generalize G2.alloc [.int .i64 y, r2, r3] = G3 at hx9 hn9 hb9 ⊢; have hc3 := hc2.of_ext hx9; have hS3 := hS2.ext hx9; have hbA3 := hbA.ext hx9; have hr3' : G3.blk H.next = some z3 := by rw [hx9.blk _ (by omega)]; exact hr2'
 have hch3 := hch2.more hx9; have other : ∀ (G4 : A1), Chg q G3 G4 → Cu B G4 q s (m + 3100000000000300) → A5 Tryz.prog lim A0c [Ptr q, .int .i64 n] G4 fun bx G5 => ∃ G6, C8 lim G5 3 (Ptr H.next) bx = some (undef, G6) ∧ D5 G6 3 (Ptr H.next) = some bx ∧ (∃ x' bx' ss', (.tuple #[v, bx] : Value) = .tuple #[x', bx'] ∧ A1v H.next G6 x' ss' ∧ SmS ss' ∧ S4 H.next G6 bx') ∧ Cu B G6 q s (m + 4000000000000000) ∧ Chg q H G6 := by
  intro G4 hch4 hc4; have hn4 := hch4.next; refine A5.mono (A20 lim q _ B s l n G4 hl hs hc4 (by omega) hn3) ?_; rintro bx G5 ⟨hb, hc5, hch5⟩; exact fin G5 v bx ss ((hS3.chg (hch4.trans hch5) (by omega)).low (by omega)) hsm ((hb.boxA hn3).low (by omega)) ((hch4.trans hch5).kept hr3' (by omega) (by omega)) (hch3.trans (hch4.trans hch5)) (hc5.le (by omega))
 have this : ∀ (G4 : A1), Chg q G3 G4 → Cu B G4 q s (m + 3100000000000300) → D5 G4 3 (.pointer (some ⟨G2.next, 0, none⟩)) = some (.agg #[.int .i64 y, r2, r3]) ∧ ∃ G6, C8 lim G4 3 (Ptr H.next) (.agg #[.int .i64 y, r2, r3]) = some (undef, G6) ∧ D5 G6 3 (Ptr H.next) = some (.agg #[.int .i64 y, r2, r3]) ∧ (∃ x' bx' ss', (.tuple #[v, .agg #[.int .i64 y, r2, r3]] : Value) = .tuple #[x', bx'] ∧ A1v H.next G6 x' ss' ∧ SmS ss' ∧ S4 H.next G6 bx') ∧ Cu B G6 q s (m + 4000000000000000) ∧ Chg q H G6 := by
  intro G4 hch4 hc4; have hn4 := hch4.next; exact ⟨E9 (hch4.kept hb9 (by omega) (by omega)), fin G4 v _ ss ((hS3.chg hch4 (by omega)).low (by omega)) hsm (hbA3.chg hch4 (by omega)) (hch4.kept hr3' (by omega) (by omega)) (hch3.trans hch4) (hc4.le (by omega))⟩
 cases ok
 ·refine D7 true ?_ (fun _ => ?_) (fun hg => absurd hg (by decide))
  ·simp only [sS]; simp
  refine A0 ?_; simp only [sS]; refine (other G3 (Chg.refl _ _) (hc3.le (by omega))).mono ?_; rintro bx G5 ⟨G6, f1, f2, f3, f4, f5⟩; simp only [sS, f1]; refine A3 ?_; simp +decide only [sQ, f2]; exact ⟨f3, f4, f5⟩
 refine A9 ?_; simp only [sS]; refine (A30 lim q _ B s l 8 G3 hl hs hc3 (by omega) (by omega)).mono ?_; rintro _ G4 ⟨⟨w, rfl⟩, hc4, hch4⟩; simp only [sS]; refine C4.split (fun hw => ?_) (fun hw => ?_)
 ·refine A0 ?_; simp only [sS]; refine (other G4 hch4 (hc4.le (by omega))).mono ?_; rintro bx G5 ⟨G6, f1, f2, f3, f4, f5⟩; simp only [sS, f1]; refine A3 ?_; simp +decide only [sQ, f2]; exact ⟨f3, f4, f5⟩
 refine A2 ?_; simp +decide only [sQ]; obtain ⟨f0, G6, f1, f2, f3, f4, f5⟩ := this G4 hch4 (hc4.le (by omega)); refine A0 ?_; simp only [sS, f0, f1]; refine A3 ?_; simp +decide only [sQ, f2]; exact ⟨f3, f4, f5⟩
end Go.Proofs.YtmdeppkfboaepaaGreat
namespace Go.Proofs.YtmdeppkfboaepaaGreat
open Go.Ab Ints
theorem C3g (lim : Nat) (s : Value) (l : List Int) (H : A1) (hl : lim ≤ H.next) (hs : SlB H s l) :
 A5 Tryz.prog lim A7i [s] H fun v H' => (∃ x bx sd up, v = .tuple #[x, bx, .int .i64 sd, .bool up] ∧ Z7 H.next H' x ∧ S4 H.next H' bx) ∧ Ext H H' := by
 refine A5m.go rfl ?_; unfold A0a; refine A0 ?_; simp only [sS]; have hx := Ext.alloc H z3; have hr2 : (H.alloc z3).blk H.next = some z3 := A6 _ _; have hnA : (H.alloc z3).next = H.next + 1 := rfl; generalize H.alloc z3 = HA at hx hr2 hnA ⊢; have hf : C9 [.slice none 0 0, .int .i64 0, .int .u64 0] [(0, 1, s)] = some [s, .int .i64 0, .int .u64 0] := by simp [C9, hs.cellsV, F8]
 have hx1 := Ext.alloc HA [s, .int .i64 0, .int .u64 0]; have hb1 : (HA.alloc [s, .int .i64 0, .int .u64 0]).blk HA.next = some [s, .int .i64 0, .int .u64 0] := A6 _ _; have hn1 : (HA.alloc [s, .int .i64 0, .int .u64 0]).next = HA.next + 1 := rfl; refine A0 ?_; simp only [sS, hf, M5, C2]; generalize HA.alloc [s, .int .i64 0, .int .u64 0] = H1 at hx1 hb1 hn1 ⊢; have hc : Cu H H1 HA.next s 0 := ⟨hx.trans hx1, by omega, by omega, 0, 0, hb1, Nat.le_refl _⟩; have hr21 : H1.blk H.next = some z3 := by rw [hx1.blk _ (by omega)]; exact hr2
 refine A0 ?_; simp only [sS]; refine (A8j lim HA.next 0 H s l H1 hl hs hc (by omega)).mono ?_; rintro _ H2 ⟨⟨x, bx, rfl, hp, hb⟩, hc2, hch2⟩; have hn2 := hch2.next; obtain ⟨k, s1, t1, rfl⟩ := hb.form; have st0 : C8 lim (H2.alloc z3) 3 (.pointer (some ⟨H2.next, 0, none⟩)) (.agg #[.int .i64 k, s1, t1]) = some (undef, H2.alloc [.int .i64 k, s1, t1]) := E7 (by omega); simp only [sS, st0]; have hx3 := Ext.alloc H2 [.int .i64 k, s1, t1]; have hb3 : (H2.alloc [.int .i64 k, s1, t1]).blk H2.next = some [.int .i64 k, s1, t1] := A6 _ _; have hn3 : (H2.alloc [.int .i64 k, s1, t1]).next = H2.next + 1 := rfl; generalize H2.alloc [.int .i64 k, s1, t1] = H3 at hx3 hb3 hn3 ⊢; have hc3 := hc2.of_ext hx3; have hp3 := hp.ext hx3; have hbx3 := hb.ext hx3; have hr23 : H3.blk H.next = some z3 := by rw [hx3.blk _ (by omega)]; exact hch2.kept hr21 (by omega) (by omega)
 have fin : ∀ G, Chg HA.next H3 G → Cu H G HA.next s 3100 → ∃ G2, C8 lim G 3 (Ptr H.next) (.agg #[.int .i64 k, s1, t1]) = some (undef, G2) ∧ D5 G2 3 (Ptr H.next) = some (.agg #[.int .i64 k, s1, t1]) ∧ (Z7 H.next G2 x ∧ S4 H.next G2 (.agg #[.int .i64 k, s1, t1])) ∧ Ext H G2 := by
  intro G hch hcu; have hchp := Chg.put H.next G [.int .i64 k, s1, t1]; exact ⟨_, L5 (by omega) (hch.kept hr23 (by omega) (by omega)), F9 (D3 _ _ _), ⟨((hp3.chg hch (by omega)).chg hchp (by omega)).low (by omega), ((hbx3.chg hch (by omega)).chg hchp (by omega)).low (by omega)⟩, Chg.ext hcu.ext hchp (Nat.le_refl _)⟩
 refine B7x ?_; simp only [sS, E9 hb3]
 repeat' (with_reducible apply And.intro)
 all_goals (refine (B8c lim HA.next _ H s l H3 hl hs hc3 (by omega)).mono ?_)
 all_goals (rintro _ H4 ⟨⟨sd, rfl⟩, hc4, hch4⟩)
 all_goals (simp only [sS, E9 (hch4.kept hb3 (by have := hc2.lt; omega) (by have := hc2.lt; omega))])
 all_goals (repeat' (with_reducible apply And.intro))
 all_goals (refine (A30 lim HA.next _ H s l 2 H4 hl hs hc4 (by omega) (by omega)).mono ?_)
 all_goals (rintro _ H5 ⟨⟨up, rfl⟩, hc5, hch5⟩)
 all_goals (obtain ⟨G2, f1, f2, f3, f4⟩ := fin H5 (hch4.trans hch5) (hc5.le (by omega)))
 all_goals (simp only [sS, E9 ((hch4.trans hch5).kept hb3 (by have := hc2.lt; omega) (by have := hc2.lt; omega)), f1])
 all_goals (repeat' (with_reducible apply And.intro))
 all_goals (refine A3 ?_)
 all_goals (simp +decide only [sQ, f2])
 all_goals (exact ⟨⟨x, _, sd, up, rfl, f3⟩, f4⟩)
theorem C5t (lim : Nat) (s : Value) (l : List Int) (H : A1) (hl : lim ≤ H.next) (hs : SlB H s l) :
 A5 Tryz.prog lim A2t [s] H fun v H' => (∃ x bx, v = .tuple #[x, bx] ∧ (∃ p, SlT H' x p ∧ p.length ≤ 1000) ∧ S4 H.next H' bx) ∧ Ext H H' := by
 refine A1u.go rfl ?_; unfold U6; refine A0 ?_; simp only [sS]; have hx := Ext.alloc H z3; have hr2 : (H.alloc z3).blk H.next = some z3 := A6 _ _; have hnA : (H.alloc z3).next = H.next + 1 := rfl; generalize H.alloc z3 = HA at hx hr2 hnA ⊢; have hf : C9 [.slice none 0 0, .int .i64 0, .int .u64 0] [(0, 1, s)] = some [s, .int .i64 0, .int .u64 0] := by simp [C9, hs.cellsV, F8]
 have hx1 := Ext.alloc HA [s, .int .i64 0, .int .u64 0]; have hb1 : (HA.alloc [s, .int .i64 0, .int .u64 0]).blk HA.next = some [s, .int .i64 0, .int .u64 0] := A6 _ _; have hn1 : (HA.alloc [s, .int .i64 0, .int .u64 0]).next = HA.next + 1 := rfl; refine A0 ?_; simp only [sS, hf, M5, C2]; generalize HA.alloc [s, .int .i64 0, .int .u64 0] = H1 at hx1 hb1 hn1 ⊢; have hc : Cu H H1 HA.next s 0 := ⟨hx.trans hx1, by omega, by omega, 0, 0, hb1, Nat.le_refl _⟩; have hr21 : H1.blk H.next = some z3 := by rw [hx1.blk _ (by omega)]; exact hr2
 refine A0 ?_; simp only [sS]; refine (B3r lim HA.next 0 H s l H1 hl hs hc (by omega)).mono ?_; rintro _ H2 ⟨⟨x, bx, ss, rfl, hS, hsm, hb⟩, hc2, hch2⟩; have hn2 := hch2.next; obtain ⟨k, s1, t1, rfl⟩ := hb.form; have st0 : C8 lim (H2.alloc z3) 3 (.pointer (some ⟨H2.next, 0, none⟩)) (.agg #[.int .i64 k, s1, t1]) = some (undef, H2.alloc [.int .i64 k, s1, t1]) := E7 (by omega); simp only [sS, st0]; have hx3 := Ext.alloc H2 [.int .i64 k, s1, t1]; have hb3 : (H2.alloc [.int .i64 k, s1, t1]).blk H2.next = some [.int .i64 k, s1, t1] := A6 _ _; have hn3 : (H2.alloc [.int .i64 k, s1, t1]).next = H2.next + 1 := rfl; have hlt2 := hc2.lt; generalize H2.alloc [.int .i64 k, s1, t1] = H3 at hx3 hb3 hn3 ⊢; have hc3 := hc2.of_ext hx3; have hS3 := hS.ext hx3; have hbx3 := hb.ext hx3; have hr23 : H3.blk H.next = some z3 := by rw [hx3.blk _ (by omega)]; exact hch2.kept hr21 (by omega) (by omega)
 have other : ∀ (G : A1), Chg HA.next H3 G → Cu H G HA.next s (0 + 4000000000000100) → A5 Tryz.prog lim V9 [Ptr HA.next] G fun v G' => ∃ x bx G2, v = .tuple #[x, bx] ∧ C8 lim G' 3 (Ptr H.next) bx = some (undef, G2) ∧ D5 G2 3 (Ptr H.next) = some bx ∧ ((∃ p, SlT G2 x p ∧ p.length ≤ 1000) ∧ S4 H.next G2 bx) ∧ Ext H G2 := by
  intro G hch hcu; have hnG := hch.next; refine A5.mono (A8j lim HA.next _ H s l G hl hs hcu (by omega)) ?_; rintro _ G1 ⟨⟨x, bx, rfl, hp, hb⟩, hc4, hch4⟩; obtain ⟨k, s1, t1, rfl⟩ := hb.form; have hchp := Chg.put H.next G1 [.int .i64 k, s1, t1]; obtain ⟨p, b, p1, p2, p3⟩ := hp.chg hchp (by omega); exact ⟨x, _, _, rfl, L5 (by omega) ((hch.trans hch4).kept hr23 (by omega) (by omega)), F9 (D3 _ _ _), ⟨⟨p, p2.sl, p3⟩, (hb.chg hchp (by omega)).low (by omega)⟩, Chg.ext hc4.ext hchp (Nat.le_refl _)⟩
 have hlen := hS3.slss.lenV; by_cases h0 : ss.length = 0
 ·have d0 : decide ((ss.length : Int) > 0) = false := decide_eq_false (by omega); refine D7 false ?_ (fun hg => absurd hg (by decide)) (fun _ => ?_)
  ·simp only [sS, hlen, d0]; simp
  refine A2 ?_; simp +decide only [sQ]; refine A0 ?_; simp only [sS]; refine (other H3 (Chg.refl _ _) (hc3.le (by omega))).mono ?_; rintro _ G1 ⟨x2, bx2, G2, rfl, f1, f2, f3, f4⟩; simp only [sS, f1]; refine A3 ?_; simp +decide only [sQ, f2]; exact ⟨⟨x2, bx2, rfl, f3⟩, f4⟩
 have d0 : decide ((ss.length : Int) > 0) = true := decide_eq_true (by omega); refine A9 ?_; simp only [sS, hlen, d0]; refine (A30 lim HA.next _ H s l 2 H3 hl hs hc3 (by omega) (by omega)).mono ?_; rintro _ H4 ⟨⟨w, rfl⟩, hc4, hch4⟩; have hn4 := hch4.next; simp only [sS]; refine C4.split (fun hw => ?_) (fun hw => ?_)
 ·have hS4 := hS3.chg hch4 (by omega); have hb4 := hch4.kept hb3 (by omega) (by omega); have fin : ∀ G, Chg HA.next H4 G → Cu H G HA.next s (0 + 4000000000000100) → ∃ G2, C8 lim G 3 (Ptr H.next) (.agg #[.int .i64 k, s1, t1]) = some (undef, G2) ∧ D5 G2 3 (Ptr H.next) = some (.agg #[.int .i64 k, s1, t1]) ∧ (∀ (xp : Value) (p : List Tm) (c : Nat), HA.next < c → G8 G c xp p → SlT G2 xp p) ∧ S4 H.next G2 (.agg #[.int .i64 k, s1, t1]) ∧ Ext H G2 := by
   intro G hch hcu; have hchp := Chg.put H.next G [.int .i64 k, s1, t1]; refine ⟨_, L5 (by omega) ((hch4.trans hch).kept hr23 (by omega) (by omega)), F9 (D3 _ _ _), ?_, ((hbx3.chg (hch4.trans hch) (by omega)).chg hchp (by omega)).low (by omega), Chg.ext hcu.ext hchp (Nat.le_refl _)⟩; intro xp p c hc hv; exact (G8.chg hv hchp (by omega)).sl
  refine B7x ?_; simp only [sS, hS4.slss.lenV, E9 hb4]
  repeat' (with_reducible apply And.intro)
  all_goals (refine (J3 lim HA.next _ H s l ss.length H4 hl hs hc4 (by omega) (by have := hsm.1; omega)).mono ?_)
  all_goals (rintro _ H5 ⟨⟨i, rfl, hi0, hi1⟩, hc5, hch5⟩)
  all_goals (obtain ⟨i, rfl⟩ : ∃ i' : Nat, i = i' := ⟨i.toNat, by omega⟩)
  all_goals (have hS5 := hS4.chg hch5 (by omega))
  all_goals (obtain ⟨bS, vs, z1, z2, z3'⟩ := hS5)
  all_goals (have hilt : i < ss.length := by omega)
  all_goals (obtain ⟨xp, c, y1, y2, y3⟩ := z3' i ss[i] (List.getElem?_eq_getElem hilt))
  all_goals (obtain ⟨b1, o1, g1, g2, g3⟩ := z2.sl.cell .i64 (i := (i : Int)) (by omega) (by omega))
  all_goals (have g3' : H5.cell b1 o1 = some xp := by rw [g3]; simpa using y1)
  all_goals (obtain ⟨G2, f1, f2, f3, f4, f5⟩ := fin H5 hch5 (hc5.le (by omega)))
  all_goals (have hfp := f3 xp ss[i] c (by omega) y3)
  all_goals (simp only [sS, g1, g3', E9 (hch5.kept hb4 (by omega) (by omega)), f1])
  all_goals (repeat' (with_reducible apply And.intro))
  all_goals (refine A3 ?_)
  all_goals (simp +decide only [sQ, f2])
  all_goals (exact ⟨⟨xp, _, rfl, ⟨ss[i], hfp, hsm.2 _ (List.getElem_mem hilt)⟩, f4⟩, f5⟩)
 refine A2 ?_; simp +decide only [sQ]; refine A0 ?_; simp only [sS]; refine (other H4 hch4 (hc4.le (by omega))).mono ?_; rintro _ G1 ⟨x2, bx2, G2, rfl, f1, f2, f3, f4⟩; simp only [sS, f1]; refine A3 ?_; simp +decide only [sQ, f2]; exact ⟨⟨x2, bx2, rfl, f3⟩, f4⟩
theorem C1g (lim : Nat) (s : Value) (l : List Int) (H : A1) (hl : lim ≤ H.next) (hs : SlB H s l) :
 A5 Tryz.prog lim A6l [s] H fun v H' => (∃ x bx ss, v = .tuple #[x, bx] ∧ A1v H.next H' x ss ∧ SmS ss ∧ S4 H.next H' bx) ∧ Ext H H' := by
 refine A5g.go rfl ?_; unfold n8; refine A0 ?_; simp only [sS]; have hx := Ext.alloc H z3; have hr2 : (H.alloc z3).blk H.next = some z3 := A6 _ _; have hnA : (H.alloc z3).next = H.next + 1 := rfl; generalize H.alloc z3 = HA at hx hr2 hnA ⊢; have hf : C9 [.slice none 0 0, .int .i64 0, .int .u64 0] [(0, 1, s)] = some [s, .int .i64 0, .int .u64 0] := by simp [C9, hs.cellsV, F8]
 have hx1 := Ext.alloc HA [s, .int .i64 0, .int .u64 0]; have hb1 : (HA.alloc [s, .int .i64 0, .int .u64 0]).blk HA.next = some [s, .int .i64 0, .int .u64 0] := A6 _ _; have hn1 : (HA.alloc [s, .int .i64 0, .int .u64 0]).next = HA.next + 1 := rfl; refine A0 ?_; simp only [sS, hf, M5, C2]; generalize HA.alloc [s, .int .i64 0, .int .u64 0] = H1 at hx1 hb1 hn1 ⊢; have hc : Cu H H1 HA.next s 0 := ⟨hx.trans hx1, by omega, by omega, 0, 0, hb1, Nat.le_refl _⟩; have hr21 : H1.blk H.next = some z3 := by rw [hx1.blk _ (by omega)]; exact hr2
 refine A0 ?_; simp only [sS]; refine (B3r lim HA.next 0 H s l H1 hl hs hc (by omega)).mono ?_; rintro _ H2 ⟨⟨x, bx, ss, rfl, hS, hsm, hb⟩, hc2, hch2⟩; have hn2 := hch2.next; obtain ⟨k, s1, t1, rfl⟩ := hb.form; have st0 : C8 lim (H2.alloc z3) 3 (.pointer (some ⟨H2.next, 0, none⟩)) (.agg #[.int .i64 k, s1, t1]) = some (undef, H2.alloc [.int .i64 k, s1, t1]) := E7 (by omega); simp only [sS, st0]; have hx3 := Ext.alloc H2 [.int .i64 k, s1, t1]; have hb3 : (H2.alloc [.int .i64 k, s1, t1]).blk H2.next = some [.int .i64 k, s1, t1] := A6 _ _; have hn3 : (H2.alloc [.int .i64 k, s1, t1]).next = H2.next + 1 := rfl; have hlt2 := hc2.lt; generalize H2.alloc [.int .i64 k, s1, t1] = H3 at hx3 hb3 hn3 ⊢; have hc3 := hc2.of_ext hx3; have hS3 := hS.ext hx3; have hbx3 := hb.ext hx3; have hr23 : H3.blk H.next = some z3 := by rw [hx3.blk _ (by omega)]; exact hch2.kept hr21 (by omega) (by omega)
 have fin : ∀ (G : A1) (bx : Value), Chg HA.next H3 G → Cu H G HA.next s (0 + 4000000000001000) → S4 HA.next G bx → ∃ G2, C8 lim G 3 (Ptr H.next) bx = some (undef, G2) ∧ D5 G2 3 (Ptr H.next) = some bx ∧ (∃ x' bx' ss', (.tuple #[x, bx] : Value) = .tuple #[x', bx'] ∧ A1v H.next G2 x' ss' ∧ SmS ss' ∧ S4 H.next G2 bx') ∧ Ext H G2 := by
  intro G bx hch hcu hb; obtain ⟨k, s1, t1, rfl⟩ := hb.form; have hchp := Chg.put H.next G [.int .i64 k, s1, t1]; exact ⟨_, L5 (by omega) (hch.kept hr23 (by omega) (by omega)), F9 (D3 _ _ _), ⟨x, _, ss, rfl, ((hS3.chg hch (by omega)).chg hchp (by omega)).low (by omega), hsm, (hb.chg hchp (by omega)).low (by omega)⟩, Chg.ext hcu.ext hchp (Nat.le_refl _)⟩
 refine A9 ?_; simp only [sS]; refine (A30 lim HA.next _ H s l 12 H3 hl hs hc3 (by omega) (by omega)).mono ?_; rintro _ H4 ⟨⟨w, rfl⟩, hc4, hch4⟩; have hn4 := hch4.next; simp only [sS]; refine C4.split (fun hw => ?_) (fun hw => ?_)
 ·refine A0 ?_; simp only [sS]; refine (B61 lim HA.next _ H s l H4 hl hs hc4 (by omega)).mono ?_; rintro _ H5 ⟨⟨n, rfl, k1, k2⟩, hc5, hch5⟩; have hn5 := hch5.next; simp only [sS]; refine (B98 lim HA.next _ H s l n H5 hl hs hc5 (by omega) k1 k2).mono ?_; rintro bx H6 ⟨hb6, hc6, hch6⟩; obtain ⟨G2, f1, f2, f3, f4⟩ := fin H6 bx (hch4.trans (hch5.trans hch6)) (hc6.le (by omega)) (hb6.low (by omega)); simp only [sS, f1]; refine A3 ?_; simp +decide only [sQ, f2]; exact ⟨f3, f4⟩
 refine A2 ?_; simp +decide only [sQ]; obtain ⟨G2, f1, f2, f3, f4⟩ := fin H4 _ hch4 (hc4.le (by omega)) ((hbx3.chg hch4 (by omega)).low (by omega)); refine A0 ?_; simp only [sS, E9 (hch4.kept hb3 (by omega) (by omega)), f1]; refine A3 ?_; simp +decide only [sQ, f2]; exact ⟨f3, f4⟩
theorem C1u (lim : Nat) (s : Value) (l : List Int) (H : A1) (hl : lim ≤ H.next) (hs : SlB H s l) :
 A5 Tryz.prog lim A3g [s] H fun v H' => (∃ x bx ss n, v = .tuple #[x, bx, .int .i64 n] ∧ l3 H' x ss ∧ SmS ss ∧ S4 H.next H' bx) ∧ Ext H H' := by
 refine A2r.go rfl ?_; unfold W5; refine A0 ?_; simp only [sS]; have hx := Ext.alloc H z3; have hr2 : (H.alloc z3).blk H.next = some z3 := A6 _ _; have hnA : (H.alloc z3).next = H.next + 1 := rfl; generalize H.alloc z3 = HA at hx hr2 hnA ⊢; have hf : C9 [.slice none 0 0, .int .i64 0, .int .u64 0] [(0, 1, s)] = some [s, .int .i64 0, .int .u64 0] := by simp [C9, hs.cellsV, F8]
 have hx1 := Ext.alloc HA [s, .int .i64 0, .int .u64 0]; have hb1 : (HA.alloc [s, .int .i64 0, .int .u64 0]).blk HA.next = some [s, .int .i64 0, .int .u64 0] := A6 _ _; have hn1 : (HA.alloc [s, .int .i64 0, .int .u64 0]).next = HA.next + 1 := rfl; refine A0 ?_; simp only [sS, hf, M5, C2]; generalize HA.alloc [s, .int .i64 0, .int .u64 0] = H1 at hx1 hb1 hn1 ⊢; have hc : Cu H H1 HA.next s 0 := ⟨hx.trans hx1, by omega, by omega, 0, 0, hb1, Nat.le_refl _⟩; have hr21 : H1.blk H.next = some z3 := by rw [hx1.blk _ (by omega)]; exact hr2
 refine A0 ?_; simp only [sS]; refine (C1g lim s l H1 (by omega) (by have := hs.ext (hx.trans hx1); exact this)).mono ?_; rintro _ H2 ⟨⟨x, bx, ss, rfl, hS, hsm, hb⟩, hx2⟩; have hn2 := hx2.next; obtain ⟨k, s1, t1, rfl⟩ := hb.form; have st0 : C8 lim (H2.alloc z3) 3 (.pointer (some ⟨H2.next, 0, none⟩)) (.agg #[.int .i64 k, s1, t1]) = some (undef, H2.alloc [.int .i64 k, s1, t1]) := E7 (by omega); simp only [sS, st0]; have hx3 := Ext.alloc H2 [.int .i64 k, s1, t1]; have hb3 : (H2.alloc [.int .i64 k, s1, t1]).blk H2.next = some [.int .i64 k, s1, t1] := A6 _ _; have hn3 : (H2.alloc [.int .i64 k, s1, t1]).next = H2.next + 1 := rfl; generalize H2.alloc [.int .i64 k, s1, t1] = H3 at hx3 hb3 hn3 ⊢; have hc3 := hc.of_ext (hx2.trans hx3); have hS3 := hS.ext hx3; have hbx3 := hb.ext hx3; have hr23 : H3.blk H.next = some z3 := by rw [hx3.blk _ (by omega), hx2.blk _ (by omega)]; exact hr21
 have fin : ∀ G, Chg HA.next H3 G → Cu H G HA.next s 100 → ∃ G2, C8 lim G 3 (Ptr H.next) (.agg #[.int .i64 k, s1, t1]) = some (undef, G2) ∧ D5 G2 3 (Ptr H.next) = some (.agg #[.int .i64 k, s1, t1]) ∧ (l3 G2 x ss ∧ SmS ss ∧ S4 H.next G2 (.agg #[.int .i64 k, s1, t1])) ∧ Ext H G2 := by
  intro G hch hcu; have hchp := Chg.put H.next G [.int .i64 k, s1, t1]; exact ⟨_, L5 (by omega) (hch.kept hr23 (by omega) (by omega)), F9 (D3 _ _ _), ⟨((hS3.chg hch (by omega)).chg hchp (by omega)).slss, hsm, ((hbx3.chg hch (by omega)).chg hchp (by omega)).low (by omega)⟩, Chg.ext hcu.ext hchp (Nat.le_refl _)⟩
 have hb2l : ∀ G : A1, E0 G 2 [.int .i64 0, .int .i64 0] [(0, 1, .int .i64 (-1)), (1, 1, .int .i64 3)] = some (.slice (some ⟨G.next, 0, some 0⟩) 2 2, G.alloc (([-1, 3] : List Int).map vi)) := fun G => I0 (by simp [C9, C2, F8])
 have hb5l : ∀ (G : A1) (y : Int), E0 G 5 [.int .i64 0, .int .i64 0, .int .i64 0, .int .i64 0, .int .i64 0] [(0, 1, .int .i64 0), (1, 1, .int .i64 1), (2, 1, .int .i64 1), (3, 1, .int .i64 2), (4, 1, .int .i64 y)] = some (.slice (some ⟨G.next, 0, some 0⟩) 5 5, G.alloc (([0, 1, 1, 2, y] : List Int).map vi)) := fun G y => I0 (by simp [C9, C2, F8])
 have hal : ∀ (G : A1) (cs : List Value), Chg HA.next H3 G → D5 (G.alloc cs) 3 (.pointer (some ⟨H2.next, 0, none⟩)) = some (.agg #[.int .i64 k, s1, t1]) := fun G cs hg => E9 ((hg.more (Ext.alloc G cs)).kept hb3 (by omega) (by omega))
 refine B7x ?_; simp only [sS, E9 hb3, hb2l, hal H3 _ (Chg.refl _ _)]
 repeat' (with_reducible apply And.intro)
 all_goals (refine (F0 lim HA.next _ H s l [-1, 3] H3 hl hs hc3 (by omega) (by simp) (by simp)).mono ?_)
 all_goals (rintro _ H4 ⟨⟨y, _, rfl⟩, hc4, hch4⟩)
 all_goals (simp only [sS, E9 (hch4.kept hb3 (by omega) (by omega)), hb5l, hal H4 _ hch4])
 all_goals (repeat' (with_reducible apply And.intro))
 all_goals (refine (F0 lim HA.next _ H s l [0, 1, 1, 2, y] H4 hl hs hc4 (by omega) (by simp) (by simp)).mono ?_)
 all_goals (rintro _ H5 ⟨⟨n, _, rfl⟩, hc5, hch5⟩)
 all_goals (obtain ⟨G2, f1, f2, f3, f4⟩ := fin H5 (hch4.trans hch5) (hc5.le (by omega)))
 all_goals (simp only [sS, E9 ((hch4.trans hch5).kept hb3 (by omega) (by omega)), f1])
 all_goals (repeat' (with_reducible apply And.intro))
 all_goals (refine A3 ?_)
 all_goals (simp +decide only [sQ, f2])
 all_goals (exact ⟨⟨x, _, ss, n, rfl, f3⟩, f4⟩)
end Go.Proofs.YtmdeppkfboaepaaGreat
namespace Go.Proofs.YtmdeppkfboaepaaGreat
open Go.Ab Ints
abbrev ptF : Value := .func (.func A0d) #[] #[]
end Go.Proofs.YtmdeppkfboaepaaGreat
namespace Go.Proofs.YtmdeppkfboaepaaGreat
open Go.Ab Ints
def B97 (n : Nat) (t : Tm) : Prop := ∀ u : Nat, n ≤ u → u < 3 → pw t u = 0
theorem A84 {l : List Int} {t : Tm} {n : Nat} (h : B97 n t) : ∀ d, n + d ≤ 3 → G7 l t (n + d) = G7 l t n
 | 0, _ => rfl
 | d + 1, hd => by
   rw [← Nat.add_assoc, G7, h (n + d) (by omega) (by omega), A84 h d (by omega)]; simp
theorem C4w {t : Tm} (h : Z6 t = true) : ((A3n t 3 : Nat) : Int) = t.x + t.y + t.z := by
 have hb := (A07 t).1 h; simp [A3n, pw]; omega
theorem C9d {n : Nat} {t : Tm} (ht : Z6 t = true) (h : B04 n t 0 = true) : B97 n t := by
 have hb := (A07 t).1 ht; intro u h1 h2; simp only [B04, Bool.and_eq_true, Bool.or_eq_true, Bool.not_eq_true', decide_eq_true_eq, Bool.and_eq_false_iff, decide_eq_false_iff_not] at h; unfold pw; rcases (by omega : u = 0 ∨ u = 1 ∨ u = 2) with rfl | rfl | rfl
 ·rw [if_pos (by decide)]; omega
 ·rw [if_neg (by decide), if_pos (by decide)]; omega
 ·rw [if_neg (by decide), if_neg (by decide)]; omega
end Go.Proofs.YtmdeppkfboaepaaGreat
namespace Go.Proofs.YtmdeppkfboaepaaGreat
open Go.Ab Ints
def pq (l : List (Int × Nat)) : List Value := l.flatMap fun n => [vi n.1, vi (n.2 : Int)]
theorem C55 (n : Int × Nat) (l : List (Int × Nat)) : pq (n :: l) = [vi n.1, vi (n.2 : Int)] ++ pq l := rfl
theorem D2f : ∀ {l : List (Int × Nat)} {i : Nat} {n : Int × Nat}, l[i]? = some n → ((pq l).drop (i * 2)).take 2 = [vi n.1, vi (n.2 : Int)]
 | [], i, n, h => by simp at h
 | a :: l, 0, n, h => by
   simp only [List.getElem?_cons_zero, Option.some.injEq] at h; subst h; rfl
 | a :: l, i + 1, n, h => by
   have e : (pq (a :: l)).drop ((i + 1) * 2) = (pq l).drop (i * 2) := by
    rw [C55, List.drop_append, List.drop_of_length_le (by simp; omega), List.nil_append]
    congr 1
    simp; omega
   rw [e]; exact D2f (by simpa using h)
abbrev SlQ (H : A1) (v : Value) (l : List (Int × Nat)) : Prop := Sl H v l.length 2 (pq l)
abbrev C1p (H : A1) (b : Nat) (v : Value) (l : List (Int × Nat)) : Prop := Vec H b v l.length 2 (pq l)
structure AtQ (H : A1) (b o : Nat) (n : Int × Nat) : Prop where
 lt : b < H.next
 all : D5 H 2 (.pointer (some ⟨b, o, none⟩)) = some (.agg #[vi n.1, vi (n.2 : Int)])
 c : H.cell b o = some (vi n.1)
 k : H.cell b (o + 1) = some (vi (n.2 : Int))
theorem AtQ.of_load {H : A1} {b o : Nat} {n : Int × Nat} (hb : b < H.next) (h : P6 H b o 2 = some [vi n.1, vi (n.2 : Int)]) : AtQ H b o n := by
 have hc : ∀ j, j < 2 → H.cell b (o + j) = ([vi n.1, vi (n.2 : Int)] : List Value)[j]? := by
  intro j hj; unfold P6 at h; unfold A1.cell; cases hbk : H.blk b with
  | none => rw [hbk] at h; cases h
  | some cs =>
    rw [hbk] at h; simp only [Option.bind_some] at h ⊢; split at h
    ·simp only [Option.some.injEq] at h; have h4 := congrArg (fun z => z[j]?) h; simp only [List.getElem?_take, List.getElem?_drop, if_pos hj] at h4; exact h4
    ·cases h
 exact ⟨hb, by simp only [D5, h, Option.map_some], hc 0 (by omega), hc 1 (by omega)⟩
theorem SlQ.ext {H H' : A1} {v : Value} {l : List (Int × Nat)} (h : SlQ H v l) (hx : Ext H H') : SlQ H' v l := Sl.keep h (T8.of_ext hx (Nat.le_refl _)) (Nat.le_refl _)
theorem C1p.ext {H H' : A1} {b : Nat} {v : Value} {l : List (Int × Nat)} (h : C1p H b v l) (hx : Ext H H') : C1p H' b v l := Vec.ext h hx
theorem SlQ.at {H : A1} {s : Value} {l : List (Int × Nat)} (h : SlQ H s l) {i : Nat} (hi : i < l.length) : ∃ b o, F1 2 s (.int .i64 i) = some (.pointer (some ⟨b, o, none⟩)) ∧ AtQ H b o l[i] := by
 obtain ⟨b, o, h1, h2, h3⟩ := Sl.iad h .i64 (i := (i : Int)) (by omega) (by omega); have e : (i : Int).toNat = i := by omega
 rw [e, D2f (List.getElem?_eq_getElem hi)] at h3; exact ⟨b, o, h1, AtQ.of_load h2 h3⟩
structure A7r (H H1 : A1) (p : Nat) (n : Int × Nat) : Prop where
 ext : Ext H H1
 ge : H.next ≤ p
 lt : p < H1.next
 blk : H1.blk p = some [vi n.1, vi (n.2 : Int)]
theorem A7r.mk' (H : A1) (n : Int × Nat) : A7r H (H.alloc [vi n.1, vi (n.2 : Int)]) H.next n := ⟨Ext.alloc _ _, Nat.le_refl _, Nat.lt_succ_self _, A6 _ _⟩
theorem A7r.mono {H H1 H2 : A1} {p : Nat} {n : Int × Nat} (h : A7r H H1 p n) (hx : Ext H1 H2) : A7r H H2 p n := ⟨h.ext.trans hx, h.ge, Nat.lt_of_lt_of_le h.lt hx.next, by rw [hx.blk _ h.lt]; exact h.blk⟩
theorem A7r.c0 {H H1 : A1} {p : Nat} {n : Int × Nat} (h : A7r H H1 p n) : H1.cell p 0 = some (vi n.1) := (D1w h.blk).1
theorem A7r.c1 {H H1 : A1} {p : Nat} {n : Int × Nat} (h : A7r H H1 p n) : H1.cell p 1 = some (vi (n.2 : Int)) := (D1w h.blk).2
theorem A7r.all {H H1 : A1} {p : Nat} {n : Int × Nat} (h : A7r H H1 p n) : D5 H1 2 (.pointer (some ⟨p, 0, none⟩)) = some (.agg #[vi n.1, vi (n.2 : Int)]) := Z9 h.blk
abbrev dV (n : Int × Nat) : Value := .agg #[vi n.1, vi (n.2 : Int)]
structure GD (x : Int × Nat) : Prop where
 odd : x.2 = 0 ∨ x.1.tmod 2 ≠ 0
 k9 : x.2 ≤ 9
 abs : x.1.natAbs ≤ 8 * 2 ^ x.2
theorem GD.small {x : Int × Nat} (h : GD x) : x.1.natAbs ≤ 4096 := by
 have h1 := h.abs; have h2 : 2 ^ x.2 ≤ 2 ^ 9 := Nat.pow_le_pow_right (by decide) h.k9; omega
theorem GD.of_norm {n : Int} {k : Nat} (hk : k ≤ 9) (hn : n.natAbs ≤ 8 * 2 ^ k) : GD (E6 n k) := by
 obtain ⟨h1, h2⟩ := g9 n k; have h3 := C0b n k; generalize E6 n k = z at h1 h2 h3 ⊢; refine ⟨h3.imp id fun h e => by have := Int.emod_eq_zero_of_dvd (Int.dvd_of_tmod_eq_zero e); omega, by omega, ?_⟩; subst h2; have e2 : 2 ^ k = 2 ^ z.2 * 2 ^ (k - z.2) := by rw [← Nat.pow_add]; congr 1; omega
 rw [Int.natAbs_mul, Int.natAbs_pow, e2, ← Nat.mul_assoc] at hn; exact Nat.le_of_mul_le_mul_right hn (Nat.pow_pos (by decide))
end Go.Proofs.YtmdeppkfboaepaaGreat
namespace Go.Proofs.YtmdeppkfboaepaaGreat
open Go.Ab Ints
theorem GD.lo {x : Int × Nat} (h : GD x) : ¬ (x.1 * 2 ^ 0 - -8 * 2 ^ x.2 < 0) := by
 have h1 := h.abs; have e : ((2 ^ x.2 : Nat) : Int) = (2 : Int) ^ x.2 := by push_cast; rfl
 rw [← e]; generalize 2 ^ x.2 = P at h1; omega
theorem GD.hi {x : Int × Nat} (h : GD x) : ¬ (8 * 2 ^ x.2 - x.1 * 2 ^ 0 < 0) := by
 have h1 := h.abs; have e : ((2 ^ x.2 : Nat) : Int) = (2 : Int) ^ x.2 := by push_cast; rfl
 rw [← e]; generalize 2 ^ x.2 = P at h1; omega
theorem C8n (lim : Nat) (x : Int × Nat) (H : A1) (hl : lim ≤ H.next) (hx : GD x) : A5 Tryz.prog lim A3z [dV x, .agg #[vi (-8), vi 0]] H fun v H' => (∃ r : Int, v = .int .i64 r ∧ ¬ r < 0) ∧ Ext H H' := by
 have hs := hx.small; have h := B5p lim x.1 (-8) x.2 0 H hl (by have := hx.k9; omega) (by omega) (by omega) (by omega); refine A5.mono h ?_; rintro v H' ⟨rfl, hx'⟩; refine ⟨⟨_, rfl, ?_⟩, hx'⟩; have := hx.lo; rcases M4 (x.1 * 2 ^ 0 - -8 * 2 ^ x.2) with ⟨_, e⟩ | ⟨h, e⟩ | ⟨_, e⟩
 ·rw [e]; omega
 ·exact absurd h this
 ·rw [e]; omega
theorem C7u (lim : Nat) (x : Int × Nat) (H : A1) (hl : lim ≤ H.next) (hx : GD x) : A5 Tryz.prog lim A3z [.agg #[vi 8, vi 0], dV x] H fun v H' => (∃ r : Int, v = .int .i64 r ∧ ¬ r < 0) ∧ Ext H H' := by
 have hs := hx.small; have h := B5p lim 8 x.1 0 x.2 H hl (by omega) (by have := hx.k9; omega) (by omega) (by omega); refine A5.mono h ?_; rintro v H' ⟨rfl, hx'⟩; refine ⟨⟨_, rfl, ?_⟩, hx'⟩; have := hx.hi; rcases M4 (8 * 2 ^ x.2 - x.1 * 2 ^ 0) with ⟨_, e⟩ | ⟨h, e⟩ | ⟨_, e⟩
 ·rw [e]; omega
 ·exact absurd h this
 ·rw [e]; omega
theorem C3t (lim : Nat) (s : Value) (l : List (Int × Nat)) (H : A1) (hl : lim ≤ H.next) (hs : SlQ H s l) (hn : 1 ≤ l.length ∧ l.length ≤ 3) (hb : ∀ n ∈ l, GD n) :
 A5 Tryz.prog lim B7w [s] H fun v H' => v = .bool true ∧ Ext H H' := by
 refine B4i.go rfl ?_; unfold A5k; refine A0 ?_; simp only [sS]; refine C7 (A0 ?_); simp only [sS, hs.lenV]; refine A7 ?_; refine B9 (fun k e' H' => ∃ (i : Nat) (x2 : Value), i + k = l.length ∧ Ext H H' ∧ e' = [s, .bool false, x2, s, .int .i64 l.length, .int .i64 i]) l.length ⟨0, _, by omega, Ext.refl _, rfl⟩ ?_; rintro k e' H' ⟨i, x2, hik, hx, rfl⟩; have hnx := hx.next; refine A9 ?_; simp only [sS]; refine C4.split (fun hlt => ?_) (fun hlt => ?_)
 ·have hlt' : i < l.length := by simpa using hlt
  obtain ⟨b1, o1, h1, hat⟩ := (hs.ext hx).at hlt'; have hbi := hb _ (List.getElem_mem hlt'); generalize l[i] = n at hat hbi; have hk9 := hbi.k9; have hsm := hbi.small; refine A2 ?_; simp +decide only [sQ]; refine A7 ?_; refine A0 ?_; simp only [sS, h1, hat.all, A9d (lim := lim) (H := H') (by omega)]; have hB := A7r.mk' H' n; generalize H'.alloc [vi n.1, vi (n.2 : Int)] = H1 at hB ⊢; generalize H'.next = q at hB hnx ⊢; have hx1 := hx.trans hB.ext; have hnx1 := hx1.next; refine S8 false (Ext H) ?_ (fun H2 hx2 hg => absurd hg (by decide)) (fun H2 hx2 _ => ?_)
  ·simp only [sS, hB.all]; refine (B3g lim n.1 n.2 H1 (by omega) (by omega) hbi.odd).mono ?_; rintro _ H2 ⟨rfl, hx2⟩; have hB2 := hB.mono hx2; have hn2 := hx2.next; have d9 : decide ((n.2 : Int) > 9) = false := by simp; omega
   simp only [sS, Nat.zero_add, hB2.c1, d9, hB2.all]; refine (C2y _ _ _ (Nat.le_refl _)).use ?_; rintro _ H3 ⟨rfl, hx3⟩ _; have hn3 := hx3.next; simp only [sS]; refine (C8n lim n H3 (by omega) hbi).mono ?_; rintro _ H4 ⟨⟨r, rfl, hr⟩, hx4⟩; have hn4 := hx4.next; have hB4 := hB2.mono (hx3.trans hx4); simp only [sS, decide_eq_false hr, hB4.all]; refine (C2y _ _ _ (Nat.le_refl _)).use ?_; rintro _ H5 ⟨rfl, hx5⟩ _; have hn5 := hx5.next; simp only [sS]; refine (C7u lim n H5 (by omega) hbi).mono ?_; rintro _ H6 ⟨⟨r2, rfl, hr2⟩, hx6⟩; simp only [sS, decide_eq_false hr2]; exact ⟨trivial, trivial, hx1.trans (hx2.trans (hx3.trans (hx4.trans (hx5.trans hx6))))⟩
  ·refine A2 ?_; simp +decide only [sQ]; refine A4 ?_; simp only [sS, D6 (i := i) (by omega)]; simp +decide only [sQ]; exact C6.mk (k - 1) (by omega) ⟨i + 1, _, by omega, hx2, rfl⟩
 ·refine B8 ?_; simp +decide only [sQ, reduceIte]; have e13 : (decide (1 ≤ (l.length : Int)) && decide ((l.length : Int) ≤ 3)) = true := by simp; omega
  refine A0 ?_; simp only [sS, hs.lenV]; refine (L6 _ _ _ _ _).eq ?_; simp only [sS, e13]; refine A3 ?_; simp +decide only [sQ]; exact ⟨trivial, hx⟩
end Go.Proofs.YtmdeppkfboaepaaGreat
namespace Go.Proofs.YtmdeppkfboaepaaGreat
open Go.Ab
def E8 {α : Type} (f : α → Int) : List α → Int
 | [] => 0
 | a :: l => f a + E8 f l
theorem W3 {α : Type} (f : α → Int) : ∀ a b : List α, E8 f (a ++ b) = E8 f a + E8 f b
 | [], b => by simp [E8]
 | x :: a, b => by rw [List.cons_append, E8, E8, W3 f a b]; omega
theorem A3b {α β : Type} (f : β → Int) (g : α → β) : ∀ l : List α, E8 f (l.map g) = E8 (fun a => f (g a)) l
 | [] => rfl
 | a :: l => by rw [List.map_cons, E8, E8, A3b f g l]
theorem A9y {α β : Type} (f : β → Int) (g : α → List β) : ∀ l : List α, E8 f (l.flatMap g) = E8 (fun a => E8 f (g a)) l
 | [] => rfl
 | a :: l => by rw [List.flatMap_cons, W3, E8, A9y f g l]
theorem I2 {α : Type} {f g : α → Int} : ∀ {l : List α}, (∀ a ∈ l, f a = g a) → E8 f l = E8 g l
 | [], _ => rfl
 | a :: l, h => by rw [E8, E8, h a (by simp), I2 fun b hb => h b (by simp [hb])]
theorem A06 {α : Type} (c : Int) (f : α → Int) : ∀ l : List α, E8 (fun a => c * f a) l = c * E8 f l
 | [] => by simp [E8]
 | a :: l => by rw [E8, E8, A06 c f l, Int.mul_add]
theorem B6r {α : Type} (c : Int) (f : α → Int) (l : List α) : E8 (fun a => f a * c) l = E8 f l * c := by
 rw [Int.mul_comm, ← A06]; exact I2 fun a _ => Int.mul_comm _ _
theorem B9z {α : Type} : ∀ l : List α, E8 (fun _ => 0) l = 0
 | [] => rfl
 | a :: l => by rw [E8, B9z l]; rfl
theorem C3i {α : Type} (f g : α → Int) : ∀ l : List α, E8 (fun a => f a + g a) l = E8 f l + E8 g l
 | [] => rfl
 | a :: l => by rw [E8, E8, E8, C3i f g l]; omega
theorem B1z {α β : Type} (f : α → β → Int) : ∀ (l : List α) (m : List β), E8 (fun a => E8 (f a) m) l = E8 (fun b => E8 (fun a => f a b) l) m
 | [], m => by simp only [E8]; exact (B9z m).symm
 | a :: l, m => by
   rw [E8, B1z f l m, ← C3i]; rfl
theorem s8 (f : Nat → Int) (n : Nat) : E8 f (List.range (n + 1)) = E8 f (List.range n) + f n := by
 rw [List.range_succ, W3]; simp [E8]
theorem C2d {α : Type} (f : α → Int) (M : Nat) : ∀ l : List α, (∀ a ∈ l, (f a).natAbs ≤ M) → (E8 f l).natAbs ≤ l.length * M
 | [], _ => by simp [E8]
 | a :: l, h => by
   have h1 := h a (by simp); have h2 := C2d f M l fun b hb => h b (by simp [hb])
   rw [E8, List.length_cons, Nat.succ_mul]; omega
theorem B3u {α : Type} (f : α → Int) (g : α → Nat) : ∀ l : List α, (∀ a ∈ l, (f a).natAbs ≤ g a) → (E8 f l).natAbs ≤ (l.map g).sum
 | [], _ => by simp [E8]
 | a :: l, h => by
   have h1 := h a (by simp); have h2 := B3u f g l fun b hb => h b (by simp [hb])
   rw [E8, List.map_cons, List.sum_cons]; omega
def chs : Nat → Nat → Nat
 | _, 0 => 1
 | 0, _ + 1 => 0
 | n + 1, k + 1 => chs n k + chs n (k + 1)
def fac (d : Nat) : Nat := [1, 1, 2, 3, 12].getD d 0
def wgt (d i j : Nat) : Int := (chs i j : Int) * ((fac d / chs d j : Nat) : Int)
def prt (lo hi : Int) (e j : Nat) : Int := (chs e j : Int) * lo ^ (e - j) * (hi - lo) ^ j
def bta (d : Nat) (lo hi : Int) (e i : Nat) : Int := E8 (fun j => wgt d i j * prt lo hi e j) (List.range (d + 1))
theorem C90 (lo : Int) (e : Nat) {j : Nat} (hj : 0 < j) : prt lo lo e j = 0 := by
 obtain ⟨k, rfl⟩ : ∃ k, j = k + 1 := ⟨j - 1, by omega⟩; unfold prt; rw [Int.sub_self, Int.pow_succ]; simp
theorem C3q (lo hi : Int) (e : Nat) : prt lo hi e 0 = lo ^ e := by
 unfold prt; have : chs e 0 = 1 := by cases e <;> rfl
 rw [this]; simp
theorem C8u (d i : Nat) : wgt d i 0 = fac d := by
 unfold wgt; have h : ∀ e, chs e 0 = 1 := fun e => by cases e <;> rfl
 rw [h, h]; simp
theorem C26 (d : Nat) (lo : Int) (e i : Nat) : bta d lo lo e i = fac d * lo ^ e := by
 unfold bta; have : ∀ n, E8 (fun j => wgt d i j * prt lo lo e j) (List.range (n + 1)) = fac d * lo ^ e := by
  intro n
  induction n with
  | zero => simp [E8, List.range_succ, C8u, C3q]
  | succ n ih =>
    rw [s8, ih, C90 lo e (by omega)]; simp
 exact this d
theorem B0o (a : Int) {M : Nat} (h : a.natAbs ≤ M) : ∀ n : Nat, (a ^ n).natAbs ≤ M ^ n
 | 0 => by simp
 | n + 1 => by
   rw [Int.pow_succ, Int.natAbs_mul, Nat.pow_succ]; exact Nat.mul_le_mul (B0o a h n) h
def D5t (d e i : Nat) : Nat := ((List.range (d + 1)).map fun j => (chs i j * (fac d / chs d j)) * (chs e j * 128 ^ (e - j) * 256 ^ j)).sum
theorem D0x : ∀ d : Fin 5, ∀ e : Fin 5, ∀ i : Fin 5, i.val ≤ d.val → e.val ≤ d.val ∨ e.val = 0 ∨ True → D5t d.val e.val i.val ≤ 12 * 384 ^ e.val := by decide +kernel
theorem C1b {d e i : Nat} {lo hi : Int} (hd : d ≤ 4) (he : e ≤ 4) (hi' : i ≤ d) (h1 : lo.natAbs ≤ 128) (h2 : (hi - lo).natAbs ≤ 256) : (bta d lo hi e i).natAbs ≤ 12 * 384 ^ e := by
 refine Nat.le_trans ?_ (D0x ⟨d, by omega⟩ ⟨e, by omega⟩ ⟨i, by omega⟩ hi' (.inr (.inr trivial))); refine B3u _ _ _ fun j _ => ?_
 unfold wgt prt; simp only [Int.natAbs_mul, Int.natAbs_natCast]; exact Nat.mul_le_mul_left _ (Nat.mul_le_mul (Nat.mul_le_mul_left _ (B0o _ h1 _)) (B0o _ h2 _))
structure Ax where
 lo : Int
 hi : Int
 d : Nat
def U1 : List Ax → List Nat → List Nat → Int
 | a :: xs, e :: es, i :: is => bta a.d a.lo a.hi e i * U1 xs es is
 | _, _, _ => 1
def O8 : List Ax → List Nat → List Nat → Int
 | a :: xs, e :: es, j :: js => prt a.lo a.hi e j * O8 xs es js
 | _, _, _ => 1
def X0 : List Ax → List Nat → List Nat → Int
 | a :: xs, i :: is, j :: js => wgt a.d i j * X0 xs is js
 | _, _, _ => 1
def C5 : List Nat → List (List Nat)
 | [] => [[]]
 | m :: ms => (List.range (m + 1)).flatMap fun n => (C5 ms).map (n :: ·)
theorem A3w : ∀ (ms : List Nat) (m : Nat), C5 (ms ++ [m]) = (C5 ms).flatMap fun l => (List.range (m + 1)).map fun n => l ++ [n]
 | [], m => by simp [C5, List.flatMap_singleton']; induction (List.range (m + 1)) <;> simp_all
 | k :: ms, m => by
   rw [List.cons_append, C5, C5, A3w ms m, List.flatMap_assoc]
   congr 1
   funext n
   rw [List.flatMap_map, List.map_flatMap]
   congr 1
   funext l
   simp [List.map_map, Function.comp_def]
theorem P1 : ∀ (ms : List Nat) (l : List Nat), l ∈ C5 ms → l.length = ms.length
 | [], l, h => by simp [C5] at h; simp [h]
 | m :: ms, l, h => by
   simp only [C5, List.mem_flatMap, List.mem_map] at h; obtain ⟨n, _, l', h1, rfl⟩ := h; simp [P1 ms l' h1]
theorem D4j : ∀ (xs : List Ax) (es is : List Nat), es.length = xs.length → is.length = xs.length →
 E8 (fun js => O8 xs es js * X0 xs is js) (C5 (xs.map (·.d))) = U1 xs es is
 | [], es, is, _, _ => by simp [C5, E8, O8, X0, U1]
 | a :: xs, e :: es, i :: is, h1, h2 => by
   have ih := D4j xs es is (by simpa using h1) (by simpa using h2); rw [List.map_cons, C5, A9y, U1]; have : ∀ n, E8 (fun js => O8 (a :: xs) (e :: es) js * X0 (a :: xs) (i :: is) js) ((C5 (xs.map (·.d))).map (n :: ·)) = (wgt a.d i n * prt a.lo a.hi e n) * U1 xs es is := by
    intro n; rw [A3b, ← ih, ← A06]; refine I2 fun js _ => ?_
    simp only [O8, X0]; simp only [Int.mul_assoc, Int.mul_comm, Int.mul_left_comm]
   simp only [this]; rw [B6r]; rfl
 | a :: xs, [], is, h1, _ => by simp at h1
 | a :: xs, e :: es, [], _, h2 => by simp at h2
end Go.Proofs.YtmdeppkfboaepaaGreat
