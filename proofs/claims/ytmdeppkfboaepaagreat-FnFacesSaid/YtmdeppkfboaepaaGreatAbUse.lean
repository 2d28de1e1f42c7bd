/- A part of the proof of a statement of this seat: the program logic; no condition. -/
import Derived.Test.YtmdeppkfboaepaaGreatAbFun
namespace Go.Ab
set_option linter.unusedVariables false
set_option linter.unusedSimpArgs false
structure T8 (lo : Nat) (H H' : A1) : Prop where
 next : H.next ≤ H'.next
 blk : ∀ b, b < lo → H'.blk b = H.blk b
theorem T8.of_ext {lo : Nat} {H H' : A1} (h : Ext H H') (hl : lo ≤ H.next) : T8 lo H H' := ⟨h.next, fun b hb => h.blk b (by omega)⟩
theorem T8.alloc {lo : Nat} (H : A1) (cs : List Value) (hl : lo ≤ H.next) : T8 lo H (H.alloc cs) := T8.of_ext (Ext.alloc H cs) hl
theorem I5 (H : A1) (cs : List Value) : (H.alloc cs).next = H.next + 1 := rfl
theorem A6 (H : A1) (cs : List Value) : (H.alloc cs).blk H.next = some cs := by simp [A1.alloc]
theorem A0p (H : A1) (cs : List Value) {b : Nat} (h : b < H.next) : (H.alloc cs).blk b = H.blk b := by simp [A1.alloc, Nat.ne_of_lt h]
theorem D3 (H : A1) (b : Nat) (cs : List Value) : (H.put b cs).blk b = some cs := by simp [A1.put]
theorem K5 (H : A1) {b b' : Nat} (cs : List Value) (h : b' ≠ b) : (H.put b cs).blk b' = H.blk b' := by simp [A1.put, h]
theorem D04 (H : A1) {b b' : Nat} (h : b' ≠ b) : (H.kill b).blk b' = H.blk b' := by simp [A1.kill, h]
theorem C4c {pre cells post : List Value} {k m : Nat} (h : k + m ≤ cells.length) : ((pre ++ cells ++ post).drop (pre.length + k)).take m = (cells.drop k).take m := by
 rw [List.append_assoc, List.drop_append, List.drop_of_length_le (by omega), List.nil_append, Nat.add_sub_cancel_left, List.drop_append_of_le_length (by omega), List.take_append_of_le_length (by simp; omega)]
structure Sl (H : A1) (s : Value) (n sz : Nat) (cells : List Value) : Prop where
 clen : cells.length = n * sz
 ex : ∃ a cap, s = .slice a n cap ∧ n ≤ cap ∧ (a = none → cap = 0) ∧ (∀ ad, a = some ad → (ad.spot = some 0 ∨ ad.spot = some sz) ∧ ad.block < H.next) ∧
  (n ≠ 0 → ∃ b o sp pre post, a = some ⟨b, o, sp⟩ ∧ H.blk b = some (pre ++ cells ++ post) ∧ pre.length = o)
theorem Sl.keep {lo : Nat} {H H' : A1} {s : Value} {n sz : Nat} {cells : List Value} (h : Sl H s n sz cells) (hk : T8 lo H H') (hl : H.next ≤ lo) : Sl H' s n sz cells := by
 obtain ⟨h0, a, cap, h1, h2, h3, h4, h5⟩ := h; refine ⟨h0, a, cap, h1, h2, h3, fun ad had => ⟨(h4 ad had).1, Nat.lt_of_lt_of_le (h4 ad had).2 hk.next⟩, fun hn => ?_⟩; obtain ⟨b, o, sp, pre, post, g1, g2, g3⟩ := h5 hn; have hb := (h4 _ g1).2; exact ⟨b, o, sp, pre, post, g1, by rw [hk.blk b (by simp at hb; omega)]; exact g2, g3⟩
theorem Sl.lenV {H : A1} {s : Value} {n sz : Nat} {cells : List Value} (h : Sl H s n sz cells) : O6 s = some (.int .i64 n) := by
 obtain ⟨_, a, cap, h1, _⟩ := h; subst h1; rfl
theorem Sl.nil (H : A1) (sz : Nat) : Sl H (.slice none 0 0) 0 sz [] :=
 ⟨by simp, none, 0, rfl, Nat.le_refl _, fun _ => rfl, (by intro ad h; cases h), (by intro h; exact absurd rfl h)⟩
theorem Sl.iad {H : A1} {s : Value} {n sz : Nat} {cells : List Value} (h : Sl H s n sz cells) (k : IntKind) {i : Int} (h0 : 0 ≤ i) (hi : i < n) :
 ∃ b o, F1 sz s (.int k i) = some (.pointer (some ⟨b, o, none⟩)) ∧ b < H.next ∧ P6 H b o sz = some ((cells.drop (i.toNat * sz)).take sz) := by
 obtain ⟨hc, a, cap, h1, h2, h3, h4, h5⟩ := h; obtain ⟨b, o, sp, pre, post, g1, g2, g3⟩ := h5 (by omega); subst h1 g1; refine ⟨b, o + i.toNat * sz, by simp [F1, h0, hi], (h4 _ rfl).2, ?_⟩; have hlt : (i.toNat + 1) * sz ≤ n * sz := Nat.mul_le_mul_right _ (by omega); rw [Nat.add_mul, Nat.one_mul] at hlt; unfold P6; rw [g2]; simp only [Option.bind_some]; rw [if_pos (by simp; omega)]; rw [← g3, C4c (by omega)]
theorem Sl.cell {H : A1} {s : Value} {n : Nat} {cells : List Value} (h : Sl H s n 1 cells) (k : IntKind) {i : Int} (h0 : 0 ≤ i) (hi : i < n) :
 ∃ b o, F1 1 s (.int k i) = some (.pointer (some ⟨b, o, none⟩)) ∧ b < H.next ∧ H.cell b o = cells[i.toNat]? := by
 obtain ⟨b, o, h1, h2, h3⟩ := h.iad k h0 hi; refine ⟨b, o, h1, h2, ?_⟩; have hc := h.clen; have hlt : i.toNat < cells.length := by omega
 unfold P6 at h3; unfold A1.cell; cases hb : H.blk b with
 | none => rw [hb] at h3; cases h3
 | some cs =>
   rw [hb] at h3; simp only [Option.bind_some] at h3 ⊢; split at h3
   ·rename_i hle; have h4 := congrArg (fun z => (z.getD [])[0]?) h3; simp only [Option.getD_some, Nat.mul_one] at h4; rw [List.getElem?_take, List.getElem?_take, List.getElem?_drop, List.getElem?_drop] at h4; simpa using h4
   ·cases h3
theorem Sl.slc {H : A1} {s : Value} {n sz : Nat} {cells : List Value} (h : Sl H s n sz cells) {lo hi : Option Value} {i j : Nat} (hij : i ≤ j) (hj : j ≤ n)
 (hlo : lo = none ∧ i = 0 ∨ ∃ k, lo = some (.int k i)) (hhi : hi = none ∧ j = n ∨ ∃ k, hi = some (.int k j)) :
 ∃ v, O5 sz s lo hi none = some v ∧ Sl H v (j - i) sz ((cells.drop (i * sz)).take ((j - i) * sz)) := by
 obtain ⟨hc, a, cap, h1, h2, h3, h4, h5⟩ := h; subst h1; have hb : Y7 n cap lo hi none = some (i, j, cap) := by
  have hB : ∀ (k : IntKind) (x y : Nat), x ≤ y → Q0 (.int k x) y = some x := by
   intro k x y hxy; simp [Q0, C5f, hxy]
  unfold Y7; rcases hlo with ⟨rfl, rfl⟩ | ⟨k, rfl⟩ <;> rcases hhi with ⟨rfl, rfl⟩ | ⟨k', rfl⟩
  ·rfl
  ·simp [hB k' j cap (by omega)]
  ·simp [hB k i j hij]
  ·simp [hB k' j cap (by omega), hB k i j hij]
 have hlen : ((cells.drop (i * sz)).take ((j - i) * sz)).length = (j - i) * sz := by
  have e1 : i * sz + (j - i) * sz = j * sz := by rw [← Nat.add_mul]; congr 1; omega
  have e2 : j * sz ≤ n * sz := Nat.mul_le_mul_right _ hj; simp [hc]; omega
 cases a with
 | none =>
   have := h3 rfl; have hn : n = 0 := by omega
   have hj0 : j - i = 0 := by omega
   refine ⟨.slice none 0 0, by simp [O5, hb], hlen, none, 0, by rw [hj0], by omega, fun _ => rfl, (by intro ad h; cases h), fun hne => absurd hj0 hne⟩
 | some ad =>
   obtain ⟨b, o, sp⟩ := ad; obtain ⟨g1, g2⟩ := h4 _ rfl; simp only at g1 g2; refine ⟨.slice (some ⟨b, o + i * sz, sp⟩) (j - i) (cap - i), by simp [O5, hb, g1], hlen, _, _, rfl, by omega, (by intro h; cases h), (by intro ad h; cases h; exact ⟨g1, g2⟩), fun hne => ?_⟩; obtain ⟨b', o', sp', pre, post, k1, k2, k3⟩ := h5 (by omega); cases k1; have e1 : i * sz + (j - i) * sz = j * sz := by rw [← Nat.add_mul]; congr 1; omega
   have e2 : j * sz ≤ n * sz := Nat.mul_le_mul_right _ hj; refine ⟨b, o + i * sz, sp, pre ++ cells.take (i * sz), cells.drop (j * sz) ++ post, rfl, ?_, ?_⟩
   ·rw [k2]
    congr 1
    have e3 : cells = cells.take (i * sz) ++ ((cells.drop (i * sz)).take ((j - i) * sz) ++ cells.drop (j * sz)) := by
     have : cells.drop (j * sz) = (cells.drop (i * sz)).drop ((j - i) * sz) := by rw [List.drop_drop]; congr 1; omega
     rw [this, List.take_append_drop, List.take_append_drop]
    simp only [List.append_assoc]; rw [← List.append_assoc _ _ post]
    conv => lhs; rw [e3]
    simp only [List.append_assoc]
   ·have e4 : i * sz ≤ n * sz := Nat.mul_le_mul_right _ (by omega); rw [List.length_append, List.length_take, k3, hc]; omega
end Go.Ab
