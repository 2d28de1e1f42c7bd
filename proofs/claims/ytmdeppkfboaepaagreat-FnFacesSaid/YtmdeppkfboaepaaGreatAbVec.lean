/- A part of the proof of a statement of this seat: the program logic; no condition. -/
import Derived.Test.YtmdeppkfboaepaaGreatAbMore
namespace Go.Ab
set_option linter.unusedVariables false
set_option linter.unusedSimpArgs false
structure Chg (b : Nat) (H H' : A1) : Prop where
 next : H.next ≤ H'.next
 blk : ∀ b', b' < H.next → b' ≠ b → H'.blk b' = H.blk b'
theorem Chg.refl (b : Nat) (H : A1) : Chg b H H := ⟨Nat.le_refl _, fun _ _ _ => rfl⟩
theorem Chg.trans {b : Nat} {H H1 H2 : A1} (h : Chg b H H1) (k : Chg b H1 H2) : Chg b H H2 := ⟨Nat.le_trans h.next k.next, fun b' hb hn => (k.blk b' (Nat.lt_of_lt_of_le hb h.next) hn).trans (h.blk b' hb hn)⟩
theorem Chg.of_ext {b : Nat} {H H' : A1} (h : Ext H H') : Chg b H H' := ⟨h.next, fun b' hb _ => h.blk b' hb⟩
theorem Chg.put (b : Nat) (H : A1) (cs : List Value) : Chg b H (H.put b cs) := ⟨Nat.le_refl _, fun b' _ hn => K5 H cs hn⟩
theorem Chg.ext {b : Nat} {H0 H H' : A1} (hx : Ext H0 H) (h : Chg b H H') (hl : H0.next ≤ b) : Ext H0 H' :=
 ⟨Nat.le_trans hx.next h.next, fun b' hb => (h.blk b' (Nat.lt_of_lt_of_le hb hx.next) (by omega)).trans (hx.blk b' hb)⟩
def Vec (H : A1) (b : Nat) (v : Value) (n sz : Nat) (cells : List Value) : Prop :=
 (v = .slice none 0 0 ∧ n = 0 ∧ cells = []) ∨
 ∃ c sp rest, v = .slice (some ⟨b, 0, sp⟩) n c ∧ (sp = some 0 ∨ sp = some sz) ∧ b < H.next ∧ H.blk b = some (cells ++ rest) ∧ cells.length = n * sz ∧ n ≤ c ∧ c * sz ≤ n * sz + rest.length
theorem Vec.nil (H : A1) (b sz : Nat) : Vec H b (.slice none 0 0) 0 sz [] := .inl ⟨rfl, rfl, rfl⟩
theorem Vec.clen {H : A1} {b : Nat} {v : Value} {n sz : Nat} {cells : List Value} (h : Vec H b v n sz cells) : cells.length = n * sz := by
 rcases h with ⟨_, rfl, rfl⟩ | ⟨c, sp, rest, _, _, _, _, h, _⟩
 ·simp
 ·exact h
theorem Vec.keep {H H' : A1} {b : Nat} {v : Value} {n sz : Nat} {cells : List Value} (h : Vec H b v n sz cells) (hn : H.next ≤ H'.next) (hb : b < H.next → H'.blk b = H.blk b) : Vec H' b v n sz cells := by
 rcases h with h | ⟨c, sp, rest, h1, h2, h3, h4, h5⟩
 ·exact .inl h
 ·exact .inr ⟨c, sp, rest, h1, h2, by omega, by rw [hb h3]; exact h4, h5⟩
theorem Vec.ext {H H' : A1} {b : Nat} {v : Value} {n sz : Nat} {cells : List Value} (h : Vec H b v n sz cells) (hx : Ext H H') : Vec H' b v n sz cells := h.keep hx.next fun hb => hx.blk b hb
theorem Vec.chg {H H' : A1} {b b' : Nat} {v : Value} {n sz : Nat} {cells : List Value} (h : Vec H b v n sz cells) (hx : Chg b' H H') (hne : b ≠ b') : Vec H' b v n sz cells := h.keep hx.next fun hb => hx.blk b hb hne
theorem Vec.sl {H : A1} {b : Nat} {v : Value} {n sz : Nat} {cells : List Value} (h : Vec H b v n sz cells) : Sl H v n sz cells := by
 rcases h with ⟨rfl, rfl, rfl⟩ | ⟨c, sp, rest, rfl, h2, h3, h4, h5, h6, _⟩
 ·exact Sl.nil _ _
 ·exact ⟨h5, _, _, rfl, h6, (by intro h; cases h), (by intro ad h; cases h; exact ⟨h2, h3⟩), fun _ => ⟨b, 0, sp, [], rest, rfl, by simpa using h4, rfl⟩⟩
theorem Vec.lenV {H : A1} {b : Nat} {v : Value} {n sz : Nat} {cells : List Value} (h : Vec H b v n sz cells) : O6 v = some (.int .i64 n) := h.sl.lenV
theorem Vec.lit {H : A1} {n sz : Nat} {cells : List Value} (hl : cells.length = n * sz) : Vec (H.alloc cells) H.next (.slice (some ⟨H.next, 0, some 0⟩) n n) n sz cells :=
 .inr ⟨n, some 0, [], rfl, .inl rfl, Nat.lt_succ_self _, by rw [A6]; simp, hl, Nat.le_refl _, by simp⟩
theorem Vec.iad {H : A1} {b : Nat} {v : Value} {n sz : Nat} {cells : List Value} (h : Vec H b v n sz cells) (k : IntKind) {i : Nat} (hi : i < n) : F1 sz v (.int k i) = some (.pointer (some ⟨b, i * sz, none⟩)) := by
 rcases h with ⟨rfl, rfl, rfl⟩ | ⟨c, sp, rest, rfl, _⟩
 ·omega
 ·simp [F1, hi]
theorem Vec.blk {H : A1} {b : Nat} {v : Value} {n sz : Nat} {cells : List Value} (h : Vec H b v n sz cells) (hn : n ≠ 0) : ∃ rest, H.blk b = some (cells ++ rest) ∧ b < H.next := by
 rcases h with ⟨rfl, rfl, rfl⟩ | ⟨c, sp, rest, rfl, h1, h2, h3, _⟩
 ·exact absurd rfl hn
 ·exact ⟨rest, h3, h2⟩
theorem Vec.cell {H : A1} {b : Nat} {v : Value} {n sz : Nat} {cells : List Value} (h : Vec H b v n sz cells) {j : Nat} {x : Value} (hx : cells[j]? = some x) : H.cell b j = some x := by
 have hj := (List.getElem?_eq_some_iff.1 hx).1; have hn : n ≠ 0 := by
  rintro rfl; have := h.clen; omega
 obtain ⟨rest, h1, h2⟩ := h.blk hn; unfold A1.cell; rw [h1]; simp only [Option.bind_some]; rw [List.getElem?_append_left hj, hx]
theorem C3w {cells rest l : List Value} {o : Nat} (h : o + l.length ≤ cells.length) : F8 (cells ++ rest) o l = F8 cells o l ++ rest := by
 unfold F8; rw [List.take_append_of_le_length (by omega), List.drop_append_of_le_length (by omega)]; simp
theorem Vec.put {lim : Nat} {H : A1} {b : Nat} {v : Value} {n sz : Nat} {cells : List Value} (h : Vec H b v n sz cells) (hl : lim ≤ b) {o m : Nat} {x : Value} {xs : List Value} (hx : C2 x = some xs) (hm : xs.length = m) (h0 : m ≠ 0)
 (ho : o + m ≤ n * sz) : ∃ cs, C8 lim H m (.pointer (some ⟨b, o, none⟩)) x = some (undef, H.put b cs) ∧ Vec (H.put b cs) b v n sz (F8 cells o xs) := by
 have hc := h.clen; rcases h with ⟨rfl, rfl, rfl⟩ | ⟨c, sp, rest, rfl, h2, h3, h4, h5, h6, h7⟩
 ·omega
 ·refine ⟨F8 (cells ++ rest) o xs, ?_, .inr ⟨c, sp, rest, rfl, h2, h3, ?_, ?_, h6, h7⟩⟩
  ·simp only [C8, hx, Option.bind_some, hm, hl, and_self, if_true, h4]; rw [if_pos (by simp; omega)]
  ·rw [D3, C3w (by omega)]
  ·rw [A12 (by omega)]; exact h5
theorem Vec.put1 {lim : Nat} {H : A1} {b : Nat} {v : Value} {n : Nat} {cells : List Value} (h : Vec H b v n 1 cells) (hl : lim ≤ b) {i : Nat} {x : Value} (hx : C2 x = some [x]) (hi : i < n) :
 ∃ cs, C8 lim H 1 (.pointer (some ⟨b, i, none⟩)) x = some (undef, H.put b cs) ∧ Vec (H.put b cs) b v n 1 (cells.set i x) := by
 have hc := h.clen; obtain ⟨cs, h1, h2⟩ := h.put hl hx rfl (by simp) (o := i) (by simp; omega); refine ⟨cs, h1, ?_⟩; rw [B2s (by omega), B7b] at h2; exact h2
theorem Sl.loadS {H : A1} {x : Value} {n sz : Nat} {cells : List Value} (h : Sl H x n sz cells) (m : Nat) (hm : m = n) : Go.Ab.A4j H sz m x = some cells := by
 subst hm; obtain ⟨hc, a, cap, rfl, h2, h3, h4, h5⟩ := h; by_cases h0 : m = 0
 ·subst h0; have : cells = [] := List.length_eq_zero_iff.1 (by simpa using hc); subst this; cases a <;> simp [Go.Ab.A4j]
 ·obtain ⟨b, o, sp, pre, post, rfl, g2, g3⟩ := h5 h0; simp only [Go.Ab.A4j, if_neg h0, P6, g2, Option.bind_some]; rw [if_pos (by simp; omega)]; have := C4c (pre := pre) (cells := cells) (post := post) (k := 0) (m := m * sz) (by omega); rw [Nat.add_zero, g3] at this; rw [this]; simp [← hc]
theorem Vec.append {lim : Nat} {H : A1} {b : Nat} {v x : Value} {n m sz bytes : Nat} {cells xs : List Value} (h : Vec H b v n sz cells) (hl : lim ≤ b) (hx : Sl H x m sz xs) (hs : sz ≠ 0) (hb : (n + m) * bytes ≤ 140737488355328) :
 ∃ v' H' b', E4 lim H sz bytes v x = some (v', H') ∧ Vec H' b' v' (n + m) sz (cells ++ xs) ∧ (b' = b ∨ b' = H.next ∧ H.next < H'.next) ∧ Chg b H H' ∧ H'.next ≤ H.next + 1 := by
 have hls := hx.loadS m rfl; have hxc := hx.clen; have hc := h.clen; obtain ⟨_, xa, xc, rfl, x2, x3, x4, x5⟩ := hx; have hxn : ¬ xc < m := by omega
 by_cases hm : m = 0
 ·subst hm; have : xs = [] := List.length_eq_zero_iff.1 (by simpa using hxc); subst this; refine ⟨v, H, b, ?_, by simpa using h, .inl rfl, Chg.refl _ _, Nat.le_succ _⟩; rcases h with ⟨rfl, _⟩ | ⟨c, sp, rest, rfl, _⟩ <;> simp [E4]
 ·rcases h with ⟨rfl, rfl, rfl⟩ | ⟨c, sp, rest, rfl, h2, h3, h4, h5, h6, h7⟩
  ·refine ⟨.slice (some ⟨H.next, 0, some sz⟩) m m, H.alloc xs, H.next, ?_, ?_, .inr ⟨rfl, Nat.lt_succ_self _⟩, Chg.of_ext (Ext.alloc _ _), Nat.le_refl _⟩
   ·simp only [E4, if_neg hm, if_neg hxn, hls, Option.bind_some]; rw [if_pos (by simpa using hb)]
   ·refine .inr ⟨m, some sz, [], by simp, .inr rfl, Nat.lt_succ_self _, by rw [A6]; simp, by simpa using hxc, by simp, by simp⟩
  ·by_cases hfit : n + m ≤ c
   ·have hmul : (n + m) * sz ≤ c * sz := Nat.mul_le_mul_right _ hfit; rw [Nat.add_mul] at hmul; have hfill : F8 (cells ++ rest) (n * sz) xs = cells ++ xs ++ rest.drop (m * sz) := by
     unfold F8; rw [← h5, List.take_left, List.drop_append, List.drop_of_length_le (by omega), hxc]; simp
    refine ⟨.slice (some ⟨b, 0, sp⟩) (n + m) c, H.put b (F8 (cells ++ rest) (n * sz) xs), b, ?_, ?_, .inl rfl, Chg.put _ _ _, Nat.le_succ _⟩
    ·simp only [E4, if_neg hm, if_neg hxn, hls, Option.bind_some, if_pos hfit, if_pos hl, h4]; rw [if_pos (by rw [Nat.add_mul]; simp; omega), Nat.zero_add]
    ·refine .inr ⟨c, sp, rest.drop (m * sz), rfl, h2, h3, by rw [D3, hfill], by simp [Nat.add_mul, h5, hxc], hfit, by rw [Nat.add_mul]; simp; omega⟩
   ·have hold : Go.Ab.A4j H sz n (.slice (some ⟨b, 0, sp⟩) n c) = some cells := (Vec.sl (.inr ⟨c, sp, rest, rfl, h2, h3, h4, h5, h6, h7⟩)).loadS n rfl; by_cases hsp : sp = some 0
    ·subst hsp; refine ⟨.slice (some ⟨H.next, 0, some sz⟩) (n + m) (n + m), H.alloc (cells ++ xs), H.next, ?_, ?_, .inr ⟨rfl, Nat.lt_succ_self _⟩, Chg.of_ext (Ext.alloc _ _), Nat.le_refl _⟩
     ·simp only [E4, if_neg hm, if_neg hxn, hls, Option.bind_some, if_neg hfit, if_pos hb, hold, if_true]
     ·exact .inr ⟨n + m, some sz, [], rfl, .inr rfl, Nat.lt_succ_self _, by rw [A6]; simp, by simp [Nat.add_mul, h5, hxc], Nat.le_refl _, by simp⟩
    ·have hsp2 : sp = some sz := by
      rcases h2 with h2 | h2
      ·exact absurd h2 hsp
      ·exact h2
     subst hsp2; refine ⟨.slice (some ⟨H.next, 0, some sz⟩) (n + m) (n + m), (H.kill b).alloc (cells ++ xs), H.next, ?_, ?_, .inr ⟨rfl, Nat.lt_succ_self _⟩, ⟨Nat.le_succ _, fun b' hb' hne => ?_⟩, Nat.le_refl _⟩
     ·simp only [E4, if_neg hm, if_neg hxn, hls, Option.bind_some, if_neg hfit, if_pos hb, hold, if_neg hsp]; rw [if_pos ⟨trivial, hl⟩, h4]; rfl
     ·have e1 : (H.kill b).next = H.next := rfl; refine .inr ⟨n + m, some sz, [], rfl, .inr rfl, Nat.lt_succ_self _, ?_, by simp [Nat.add_mul, h5, hxc], Nat.le_refl _, by simp⟩; have := A6 (H.kill b) (cells ++ xs); rw [e1] at this; rw [this]; simp
     ·rw [A0p _ _ (by exact hb'), D04 _ hne]
end Go.Ab
namespace Go.Ab
theorem A0q (H : A1) (cs : List Value) (o : Nat) : (H.alloc cs).cell H.next o = cs[o]? := by simp [A1.cell, A6]
theorem B7 {H : A1} {b : Nat} {cs : List Value} (h : H.blk b = some cs) (o : Nat) : H.cell b o = cs[o]? := by simp [A1.cell, h]
theorem F9 {H : A1} {b : Nat} {cs : List Value} (h : H.blk b = some cs) : D5 H cs.length (.pointer (some ⟨b, 0, none⟩)) = some (.agg cs.toArray) := by simp [D5, P6, h]
theorem B2b {lim : Nat} {H : A1} {b : Nat} {cs xs : List Value} (hl : lim ≤ b) (h : H.blk b = some cs) (hx : xs.length = cs.length) : C8 lim H cs.length (.pointer (some ⟨b, 0, none⟩)) (.agg xs.toArray) = some (undef, H.put b xs) := by
 simp only [C8, C2, Option.bind_some, hx, hl, and_self, if_true, h]; rw [if_pos (by omega)]; simp [F8, hx]
end Go.Ab
namespace Go.Ab
theorem Sl.cellsV {H : A1} {v : Value} {n sz : Nat} {cells : List Value} (h : Sl H v n sz cells) : Go.Ab.C2 v = some [v] := by
 obtain ⟨_, a, cap, rfl, _⟩ := h; rfl
theorem Vec.cellsV {H : A1} {b : Nat} {v : Value} {n sz : Nat} {cells : List Value} (h : Vec H b v n sz cells) : Go.Ab.C2 v = some [v] := h.sl.cellsV
def Y3 {α : Type} (f : α → α) (l : List α) (i : Nat) : List α := (l.take i).map f ++ l.drop i
theorem A4a {α : Type} (f : α → α) (l : List α) : Y3 f l 0 = l := by simp [Y3]
theorem S6 {α : Type} (f : α → α) (l : List α) (i : Nat) : (Y3 f l i).length = l.length := by simp [Y3]; omega
theorem A69 {α : Type} (f : α → α) (l : List α) {i : Nat} (h : l.length ≤ i) : Y3 f l i = l.map f := by simp [Y3, List.take_of_length_le h, List.drop_of_length_le h]
theorem A62 {α : Type} (f : α → α) (l : List α) {i : Nat} (h : i < l.length) : (Y3 f l i)[i]? = some l[i] := by
 unfold Y3; rw [List.getElem?_append_right (by simp; omega)]; simp [Nat.min_eq_left (Nat.le_of_lt h), h]
theorem A63 {α : Type} (f : α → α) (l : List α) {i : Nat} (h : i < l.length) : (Y3 f l i).set i (f l[i]) = Y3 f l (i + 1) := by
 unfold Y3; have h0 : i - ((l.take i).map f).length = 0 := by simp; omega
 have e : l.drop i = l[i] :: l.drop (i + 1) := List.drop_eq_getElem_cons h; rw [List.set_append_right _ _ (by simp; omega), h0, e, List.set_cons_zero, List.take_succ_eq_append_getElem h, List.map_append, List.append_assoc]; rfl
theorem C8q {a b c x y z : Value} (hx : C2 x = some [x]) (hy : C2 y = some [y]) (hz : C2 z = some [z]) : C9 [a, b, c] [(0, 1, x), (1, 1, y), (2, 1, z)] = some [x, y, z] := by
 simp [C9, hx, hy, hz]
theorem S7 (k : IntKind) (n : Int) : C2 (.int k n) = some [.int k n] := rfl
theorem L5 {lim b : Nat} {H : A1} {p q r x y z : Value} (hl : lim ≤ b) (h : H.blk b = some [p, q, r]) : C8 lim H 3 (.pointer (some ⟨b, 0, none⟩)) (.agg #[x, y, z]) = some (undef, H.put b [x, y, z]) :=
 B2b (xs := [x, y, z]) hl h rfl
theorem E7 {lim : Nat} {H : A1} {p q r x y z : Value} (hl : lim ≤ H.next) : C8 lim (H.alloc [p, q, r]) 3 (.pointer (some ⟨H.next, 0, none⟩)) (.agg #[x, y, z]) = some (undef, H.alloc [x, y, z]) := by
 rw [L5 hl (A6 _ _), d8]
theorem E9 {b : Nat} {H : A1} {x y z : Value} (h : H.blk b = some [x, y, z]) : D5 H 3 (.pointer (some ⟨b, 0, none⟩)) = some (.agg #[x, y, z]) := F9 h
end Go.Ab
