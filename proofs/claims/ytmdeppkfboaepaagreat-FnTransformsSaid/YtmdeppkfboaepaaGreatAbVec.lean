/- Slices of one's own that begin a block: read, written, appended to. -/
import Derived.Test.YtmdeppkfboaepaaGreatAbMore
namespace Go.Ab
set_option linter.unusedVariables false
set_option linter.unusedSimpArgs false
structure Chg (b : Nat) (H H' : AHeap) : Prop where
 next : H.next ≤ H'.next
 blk : ∀ b', b' < H.next → b' ≠ b → H'.blk b' = H.blk b'
theorem Chg.refl (b : Nat) (H : AHeap) : Chg b H H := ⟨Nat.le_refl _, fun _ _ _ => rfl⟩
theorem Chg.trans {b : Nat} {H H1 H2 : AHeap} (h : Chg b H H1) (k : Chg b H1 H2) : Chg b H H2 := ⟨Nat.le_trans h.next k.next, fun b' hb hn => (k.blk b' (Nat.lt_of_lt_of_le hb h.next) hn).trans (h.blk b' hb hn)⟩
theorem Chg.of_ext {b : Nat} {H H' : AHeap} (h : Ext H H') : Chg b H H' := ⟨h.next, fun b' hb _ => h.blk b' hb⟩
theorem Chg.put (b : Nat) (H : AHeap) (cs : List Value) : Chg b H (H.put b cs) := ⟨Nat.le_refl _, fun b' _ hn => put_ne H cs hn⟩
theorem Chg.keep {b lo : Nat} {H H' : AHeap} (h : Chg b H H') (hl : lo ≤ b) (hn : lo ≤ H.next) : Keep lo H H' := ⟨h.next, fun b' hb => h.blk b' (by omega) (by omega)⟩
theorem Chg.ext {b : Nat} {H0 H H' : AHeap} (hx : Ext H0 H) (h : Chg b H H') (hl : H0.next ≤ b) : Ext H0 H' :=
 ⟨Nat.le_trans hx.next h.next, fun b' hb => (h.blk b' (Nat.lt_of_lt_of_le hb hx.next) (by omega)).trans (hx.blk b' hb)⟩
def Vec (H : AHeap) (b : Nat) (v : Value) (n sz : Nat) (cells : List Value) : Prop :=
 (v = .slice none 0 0 ∧ n = 0 ∧ cells = []) ∨
 ∃ c sp rest, v = .slice (some ⟨b, 0, sp⟩) n c ∧ (sp = some 0 ∨ sp = some sz) ∧ b < H.next ∧ H.blk b = some (cells ++ rest) ∧ cells.length = n * sz ∧ n ≤ c ∧ c * sz ≤ n * sz + rest.length
theorem Vec.nil (H : AHeap) (b sz : Nat) : Vec H b (.slice none 0 0) 0 sz [] := .inl ⟨rfl, rfl, rfl⟩
theorem Vec.clen {H : AHeap} {b : Nat} {v : Value} {n sz : Nat} {cells : List Value} (h : Vec H b v n sz cells) : cells.length = n * sz := by
 rcases h with ⟨_, rfl, rfl⟩ | ⟨c, sp, rest, _, _, _, _, h, _⟩
 · simp
 · exact h
theorem Vec.keep {H H' : AHeap} {b : Nat} {v : Value} {n sz : Nat} {cells : List Value} (h : Vec H b v n sz cells) (hn : H.next ≤ H'.next) (hb : b < H.next → H'.blk b = H.blk b) : Vec H' b v n sz cells := by
 rcases h with h | ⟨c, sp, rest, h1, h2, h3, h4, h5⟩
 · exact .inl h
 · exact .inr ⟨c, sp, rest, h1, h2, by omega, by rw [hb h3]; exact h4, h5⟩
theorem Vec.ext {H H' : AHeap} {b : Nat} {v : Value} {n sz : Nat} {cells : List Value} (h : Vec H b v n sz cells) (hx : Ext H H') : Vec H' b v n sz cells := h.keep hx.next fun hb => hx.blk b hb
theorem Vec.chg {H H' : AHeap} {b b' : Nat} {v : Value} {n sz : Nat} {cells : List Value} (h : Vec H b v n sz cells) (hx : Chg b' H H') (hne : b ≠ b') : Vec H' b v n sz cells := h.keep hx.next fun hb => hx.blk b hb hne
theorem Vec.sl {H : AHeap} {b : Nat} {v : Value} {n sz : Nat} {cells : List Value} (h : Vec H b v n sz cells) : Sl H v n sz cells := by
 rcases h with ⟨rfl, rfl, rfl⟩ | ⟨c, sp, rest, rfl, h2, h3, h4, h5, h6, _⟩
 · exact Sl.nil _ _
 · exact ⟨h5, _, _, rfl, h6, (by intro h; cases h), (by intro ad h; cases h; exact ⟨h2, h3⟩), fun _ => ⟨b, 0, sp, [], rest, rfl, by simpa using h4, rfl⟩⟩
theorem Vec.lenV {H : AHeap} {b : Nat} {v : Value} {n sz : Nat} {cells : List Value} (h : Vec H b v n sz cells) : lenV v = some (.int .i64 n) := h.sl.lenV
theorem Vec.lit {H : AHeap} {n sz : Nat} {cells : List Value} (hl : cells.length = n * sz) : Vec (H.alloc cells) H.next (.slice (some ⟨H.next, 0, some 0⟩) n n) n sz cells :=
 .inr ⟨n, some 0, [], rfl, .inl rfl, Nat.lt_succ_self _, by rw [alloc_new]; simp, hl, Nat.le_refl _, by simp⟩
theorem Vec.iad {H : AHeap} {b : Nat} {v : Value} {n sz : Nat} {cells : List Value} (h : Vec H b v n sz cells) (k : IntKind) {i : Nat} (hi : i < n) : iadV sz v (.int k i) = some (.pointer (some ⟨b, i * sz, none⟩)) := by
 rcases h with ⟨rfl, rfl, rfl⟩ | ⟨c, sp, rest, rfl, _⟩
 · omega
 · simp [iadV, hi]
theorem Vec.blk {H : AHeap} {b : Nat} {v : Value} {n sz : Nat} {cells : List Value} (h : Vec H b v n sz cells) (hn : n ≠ 0) : ∃ rest, H.blk b = some (cells ++ rest) ∧ b < H.next := by
 rcases h with ⟨rfl, rfl, rfl⟩ | ⟨c, sp, rest, rfl, h1, h2, h3, _⟩
 · exact absurd rfl hn
 · exact ⟨rest, h3, h2⟩
theorem Vec.loadN {H : AHeap} {b : Nat} {v : Value} {n sz : Nat} {cells : List Value} (h : Vec H b v n sz cells) {i : Nat} (hi : i < n) : loadNH H b (i * sz) sz = some ((cells.drop (i * sz)).take sz) := by
 obtain ⟨rest, h1, h2⟩ := h.blk (by omega)
 have hc := h.clen
 have hlt : (i + 1) * sz ≤ n * sz := Nat.mul_le_mul_right _ (by omega)
 rw [Nat.add_mul, Nat.one_mul] at hlt
 unfold loadNH
 rw [h1]
 simp only [Option.bind_some]
 rw [if_pos (by simp; omega), List.drop_append_of_le_length (by omega), List.take_append_of_le_length (by simp; omega)]
theorem Vec.cell {H : AHeap} {b : Nat} {v : Value} {n sz : Nat} {cells : List Value} (h : Vec H b v n sz cells) {j : Nat} {x : Value} (hx : cells[j]? = some x) : H.cell b j = some x := by
 have hj := (List.getElem?_eq_some_iff.1 hx).1
 have hn : n ≠ 0 := by
   rintro rfl
   have := h.clen
   omega
 obtain ⟨rest, h1, h2⟩ := h.blk hn
 unfold AHeap.cell
 rw [h1]
 simp only [Option.bind_some]
 rw [List.getElem?_append_left hj, hx]
theorem putL_append {cells rest l : List Value} {o : Nat} (h : o + l.length ≤ cells.length) : putL (cells ++ rest) o l = putL cells o l ++ rest := by
 unfold putL
 rw [List.take_append_of_le_length (by omega), List.drop_append_of_le_length (by omega)]
 simp
theorem Vec.put {lim : Nat} {H : AHeap} {b : Nat} {v : Value} {n sz : Nat} {cells : List Value} (h : Vec H b v n sz cells) (hl : lim ≤ b) {o m : Nat} {x : Value} {xs : List Value} (hx : cellsV x = some xs) (hm : xs.length = m) (h0 : m ≠ 0)
   (ho : o + m ≤ n * sz) : ∃ cs, storeH lim H m (.pointer (some ⟨b, o, none⟩)) x = some (undef, H.put b cs) ∧ Vec (H.put b cs) b v n sz (putL cells o xs) := by
 have hc := h.clen
 rcases h with ⟨rfl, rfl, rfl⟩ | ⟨c, sp, rest, rfl, h2, h3, h4, h5, h6, h7⟩
 · omega
 · refine ⟨putL (cells ++ rest) o xs, ?_, .inr ⟨c, sp, rest, rfl, h2, h3, ?_, ?_, h6, h7⟩⟩
   · simp only [storeH, hx, Option.bind_some, hm, hl, and_self, if_true, h4]
     rw [if_pos (by simp; omega)]
   · rw [put_same, putL_append (by omega)]
   · rw [putL_length (by omega)]; exact h5
theorem Vec.put1 {lim : Nat} {H : AHeap} {b : Nat} {v : Value} {n : Nat} {cells : List Value} (h : Vec H b v n 1 cells) (hl : lim ≤ b) {i : Nat} {x : Value} (hx : cellsV x = some [x]) (hi : i < n) :
   ∃ cs, storeH lim H 1 (.pointer (some ⟨b, i, none⟩)) x = some (undef, H.put b cs) ∧ Vec (H.put b cs) b v n 1 (cells.set i x) := by
 have hc := h.clen
 obtain ⟨cs, h1, h2⟩ := h.put hl hx rfl (by simp) (o := i) (by simp; omega)
 refine ⟨cs, h1, ?_⟩
 rw [putL_cons (by omega), putL_nil] at h2
 exact h2
theorem Sl.loadS {H : AHeap} {x : Value} {n sz : Nat} {cells : List Value} (h : Sl H x n sz cells) (m : Nat) (hm : m = n) : Go.Ab.loadS H sz m x = some cells := by
 subst hm
 obtain ⟨hc, a, cap, rfl, h2, h3, h4, h5⟩ := h
 by_cases h0 : m = 0
 · subst h0
   have : cells = [] := List.length_eq_zero_iff.1 (by simpa using hc)
   subst this
   cases a <;> simp [Go.Ab.loadS]
 · obtain ⟨b, o, sp, pre, post, rfl, g2, g3⟩ := h5 h0
   simp only [Go.Ab.loadS, if_neg h0, loadNH, g2, Option.bind_some]
   rw [if_pos (by simp; omega)]
   have := drop_mid (pre := pre) (cells := cells) (post := post) (k := 0) (m := m * sz) (by omega)
   rw [Nat.add_zero, g3] at this
   rw [this]
   simp [← hc]
theorem Vec.append {lim : Nat} {H : AHeap} {b : Nat} {v x : Value} {n m sz bytes : Nat} {cells xs : List Value} (h : Vec H b v n sz cells) (hl : lim ≤ b) (hx : Sl H x m sz xs) (hs : sz ≠ 0) (hb : (n + m) * bytes ≤ 140737488355328) :
   ∃ v' H' b', appendH lim H sz bytes v x = some (v', H') ∧ Vec H' b' v' (n + m) sz (cells ++ xs) ∧ (b' = b ∨ b' = H.next ∧ H.next < H'.next) ∧ Chg b H H' ∧ H'.next ≤ H.next + 1 := by
 have hls := hx.loadS m rfl
 have hxc := hx.clen
 have hc := h.clen
 obtain ⟨_, xa, xc, rfl, x2, x3, x4, x5⟩ := hx
 have hxn : ¬ xc < m := by omega
 by_cases hm : m = 0
 · subst hm
   have : xs = [] := List.length_eq_zero_iff.1 (by simpa using hxc)
   subst this
   refine ⟨v, H, b, ?_, by simpa using h, .inl rfl, Chg.refl _ _, Nat.le_succ _⟩
   rcases h with ⟨rfl, _⟩ | ⟨c, sp, rest, rfl, _⟩ <;> simp [appendH]
 · rcases h with ⟨rfl, rfl, rfl⟩ | ⟨c, sp, rest, rfl, h2, h3, h4, h5, h6, h7⟩
   · refine ⟨.slice (some ⟨H.next, 0, some sz⟩) m m, H.alloc xs, H.next, ?_, ?_, .inr ⟨rfl, Nat.lt_succ_self _⟩, Chg.of_ext (Ext.alloc _ _), Nat.le_refl _⟩
     · simp only [appendH, if_neg hm, if_neg hxn, hls, Option.bind_some]
       rw [if_pos (by simpa using hb)]
     · refine .inr ⟨m, some sz, [], by simp, .inr rfl, Nat.lt_succ_self _, by rw [alloc_new]; simp, by simpa using hxc, by simp, by simp⟩
   · by_cases hfit : n + m ≤ c
     · have hmul : (n + m) * sz ≤ c * sz := Nat.mul_le_mul_right _ hfit
       rw [Nat.add_mul] at hmul
       have hfill : putL (cells ++ rest) (n * sz) xs = cells ++ xs ++ rest.drop (m * sz) := by
         unfold putL
         rw [← h5, List.take_left, List.drop_append, List.drop_of_length_le (by omega), hxc]
         simp
       refine ⟨.slice (some ⟨b, 0, sp⟩) (n + m) c, H.put b (putL (cells ++ rest) (n * sz) xs), b, ?_, ?_, .inl rfl, Chg.put _ _ _, Nat.le_succ _⟩
       · simp only [appendH, if_neg hm, if_neg hxn, hls, Option.bind_some, if_pos hfit, if_pos hl, h4]
         rw [if_pos (by rw [Nat.add_mul]; simp; omega), Nat.zero_add]
       · refine .inr ⟨c, sp, rest.drop (m * sz), rfl, h2, h3, by rw [put_same, hfill], by simp [Nat.add_mul, h5, hxc], hfit, by rw [Nat.add_mul]; simp; omega⟩
     · have hold : Go.Ab.loadS H sz n (.slice (some ⟨b, 0, sp⟩) n c) = some cells := (Vec.sl (.inr ⟨c, sp, rest, rfl, h2, h3, h4, h5, h6, h7⟩)).loadS n rfl
       by_cases hsp : sp = some 0
       · subst hsp
         refine ⟨.slice (some ⟨H.next, 0, some sz⟩) (n + m) (n + m), H.alloc (cells ++ xs), H.next, ?_, ?_, .inr ⟨rfl, Nat.lt_succ_self _⟩, Chg.of_ext (Ext.alloc _ _), Nat.le_refl _⟩
         · simp only [appendH, if_neg hm, if_neg hxn, hls, Option.bind_some, if_neg hfit, if_pos hb, hold, if_true]
         · exact .inr ⟨n + m, some sz, [], rfl, .inr rfl, Nat.lt_succ_self _, by rw [alloc_new]; simp, by simp [Nat.add_mul, h5, hxc], Nat.le_refl _, by simp⟩
       · have hsp2 : sp = some sz := by
           rcases h2 with h2 | h2
           · exact absurd h2 hsp
           · exact h2
         subst hsp2
         refine ⟨.slice (some ⟨H.next, 0, some sz⟩) (n + m) (n + m), (H.kill b).alloc (cells ++ xs), H.next, ?_, ?_, .inr ⟨rfl, Nat.lt_succ_self _⟩, ⟨Nat.le_succ _, fun b' hb' hne => ?_⟩, Nat.le_refl _⟩
         · simp only [appendH, if_neg hm, if_neg hxn, hls, Option.bind_some, if_neg hfit, if_pos hb, hold, if_neg hsp]
           rw [if_pos ⟨trivial, hl⟩, h4]
           rfl
         · have e1 : (H.kill b).next = H.next := rfl
           refine .inr ⟨n + m, some sz, [], rfl, .inr rfl, Nat.lt_succ_self _, ?_, by simp [Nat.add_mul, h5, hxc], Nat.le_refl _, by simp⟩
           have := alloc_new (H.kill b) (cells ++ xs)
           rw [e1] at this
           rw [this]; simp
         · rw [alloc_old _ _ (by exact hb'), kill_ne _ hne]
end Go.Ab
namespace Go.Ab
theorem cell_blk {H : AHeap} {b : Nat} {cs : List Value} (h : H.blk b = some cs) (o : Nat) : H.cell b o = cs[o]? := by simp [AHeap.cell, h]
theorem loadNV_blk {H : AHeap} {b : Nat} {cs : List Value} (h : H.blk b = some cs) : loadNV H cs.length (.pointer (some ⟨b, 0, none⟩)) = some (.agg cs.toArray) := by simp [loadNV, loadNH, h]
theorem store_all {lim : Nat} {H : AHeap} {b : Nat} {cs xs : List Value} (hl : lim ≤ b) (h : H.blk b = some cs) (hx : xs.length = cs.length) : storeH lim H cs.length (.pointer (some ⟨b, 0, none⟩)) (.agg xs.toArray) = some (undef, H.put b xs) := by
 simp only [storeH, cellsV, Option.bind_some, hx, hl, and_self, if_true, h]
 rw [if_pos (by omega)]
 simp [putL, hx]
end Go.Ab
namespace Go.Ab
theorem Sl.cellsV {H : AHeap} {v : Value} {n sz : Nat} {cells : List Value} (h : Sl H v n sz cells) : Go.Ab.cellsV v = some [v] := by
 obtain ⟨_, a, cap, rfl, _⟩ := h
 rfl
theorem Vec.cellsV {H : AHeap} {b : Nat} {v : Value} {n sz : Nat} {cells : List Value} (h : Vec H b v n sz cells) : Go.Ab.cellsV v = some [v] := h.sl.cellsV
theorem cells_int (k : IntKind) (n : Int) : cellsV (.int k n) = some [.int k n] := rfl
theorem store3 {lim b : Nat} {H : AHeap} {p q r x y z : Value} (hl : lim ≤ b) (h : H.blk b = some [p, q, r]) : storeH lim H 3 (.pointer (some ⟨b, 0, none⟩)) (.agg #[x, y, z]) = some (undef, H.put b [x, y, z]) :=
 store_all (xs := [x, y, z]) hl h rfl
theorem load3 {b : Nat} {H : AHeap} {x y z : Value} (h : H.blk b = some [x, y, z]) : loadNV H 3 (.pointer (some ⟨b, 0, none⟩)) = some (.agg #[x, y, z]) := loadNV_blk h
end Go.Ab
