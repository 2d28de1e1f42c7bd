/- Parts of the proof of a statement of this seat: contracts of functions that the law calls, or the law's own row; no condition. -/
import Derived.Test.YtagocdkcnajiiaaGreatM4
/- Parts of the proof of a statement of this seat: contracts of functions that the law calls, or the law's own row; no condition. -/
/- Boxes: round 1's contracts, for this seat; no condition beyond stated lengths. -/
namespace Go.Proofs.YtagocdkcnajiiaaGreat.Ints
open Go.Ab
set_option linter.unusedSimpArgs false
set_option linter.unusedVariables false
theorem szIntS_ok (lim : Nat) (s : Value) (l : List Int) (left : Int) (H : AHeap) (hs : SlI H s l) (h0 : -20000000000000 ≤ left) (h1 : left ≤ 1000000000) (hn : l.length ≤ 20000000000000) :
   ACalls Tryz.prog lim n_laws_szIntS [s, .int .i64 left] H fun v H' => v = .int .i64 (if left - l.length < 0 then -1 else left - l.length) ∧ H' = H := by
 refine is_laws_szIntS.go rfl ?_
 unfold c_laws_szIntS
 have hw : IntKind.i64.wrap (left - l.length) = left - l.length := by rw [IntKind.wrap_i64]; omega
 refine s_reg ?_
 simp only [o_pure, o_nil, POp.ev, Opd.ev, env0, gu, setD, List.set, xsj, xel]
 refine s_reg ?_
 simp only [o_pure, o_nil, POp.ev, Opd.ev, gv, setD, List.set, xsj, xel, binV, ne_eq, xnt, if_false, hs.lenV, hw]
 refine s_test ?_
 simp only [o_pure, o_nil, POp.ev, Opd.ev, gv, setD, xsj, xel, binV, ne_eq, xnt, if_false]
 refine Test.split (fun h => ?_) (fun h => ?_)
 · refine s_reg ?_
   simp only [o_pure, o_nil, POp.ev, Opd.ev, setD, List.set, xsj, xel]
   refine s_ret1 ?_
   simp +decide only [pqr, pfr, resV, resOne, gv, xsj, xel]
   rw [if_pos (by simpa using h)]
   trivial
 · refine s_skip1 ?_
   simp +decide only [pqn]
   refine s_reg ?_
   simp only [o_pure, o_nil, POp.ev, Opd.ev, gv, setD, List.set, xsj, xel]
   refine s_ret1 ?_
   simp +decide only [pfr, resV, resOne, gv, xsj, xel]
   rw [if_neg (by simpa using h)]
   trivial
theorem clone_ok (lim : Nat) (s : Value) (l : List Int) (H : AHeap) (hl : lim ≤ H.next) (hs : SlI H s l) (hn : l.length ≤ 1000000000) :
   ACalls Tryz.prog lim n_slices_Clone_S_int_int [s] H fun v H' => ∃ b, H.next ≤ b ∧ (b < H'.next ∨ v = .slice none 0 0) ∧ VecI H' b v l ∧ Ext H H' := by
 refine is_slices_Clone_S_int_int.go rfl ?_
 unfold c_slices_Clone_S_int_int
 refine s_reg ?_
 simp only [o_pure, o_nil, POp.ev, Opd.ev, env0, gu, setD, List.set, xsj, xel]
 refine s_test ?_
 have hs2 := hs
 obtain ⟨_, a, cap, rfl, hc, hc0, _⟩ := hs2
 cases a with
 | none =>
   have := hc0 rfl
   have hl0 : l = [] := List.length_eq_zero_iff.1 (by omega)
   subst hl0
   simp only [o_pure, o_nil, POp.ev, Opd.ev, gv, setD, xms, xsj, xel, isNilV, if_false, Bool.false_eq_true]
   refine Test.true_ (s_reg ?_)
   simp only [o_pure, o_nil, POp.ev, Opd.ev, setD, List.set, xsj, xel]
   refine s_ret1 ?_
   simp +decide only [pqr, pfr, resV, resOne, gv, xsj, xel]
   exact ⟨H.next, Nat.le_refl _, .inr trivial, Vec.nil _ _ _, Ext.refl _⟩
 | some ad =>
   simp only [o_pure, o_nil, POp.ev, Opd.ev, gv, setD, xms, xsj, xel, isNilV, if_false, Bool.false_eq_true]
   refine Test.false_ (s_skip1 ?_)
   simp +decide only [pqn]
   refine s_reg ?_
   have h0 : Vec (H.alloc []) H.next (.slice (some ⟨H.next, 0, some 0⟩) 0 0) 0 1 [] := Vec.lit rfl
   obtain ⟨v', H', b', h1, h2, h3, h4, h5⟩ := h0.append (lim := lim) hl (hs.keep (Keep.alloc H [] (Nat.le_refl _)) (Nat.le_refl _)) (by decide) (bytes := 8) (by omega)
   simp only [o_pure, o_eff, o_nil, POp.ev, Opd.ev, EOp.ev, gv, setD, List.set, List.map, xms, xsj, xel, bsliceH, fillV, h1]
   refine s_ret1 ?_
   simp +decide only [pfr, resV, resOne, gv, xsj, xel]
   have hx : Ext H H' := Chg.ext (Ext.alloc H []) h4 (Nat.le_refl _)
   refine ⟨b', by rcases h3 with rfl | ⟨rfl, _⟩ <;> simp [alloc_next], .inl ?_, by simpa using h2, hx⟩
   rcases h3 with rfl | ⟨rfl, h6⟩
   · exact Nat.lt_of_lt_of_le (Nat.lt_succ_self _) h4.next
   · exact h6
def rngB (m : Int) : List Int → List Int → Bool
 | x :: l, y :: h => ((decide (-m ≤ x) && decide (x ≤ m)) && (decide (-m ≤ y) && decide (y ≤ m)) && decide (x < y)) && rngB m l h
 | _, _ => true
def oddB : List Int → List Int → Bool
 | x :: l, y :: h => (x.tmod 2 != 0 || y.tmod 2 != 0) || oddB l h
 | _, _ => false
def goodB (k : Int) (low high : List Int) : Bool :=
 (decide (0 ≤ k) && decide (k ≤ 8)) && (decide (1 ≤ (low.length : Int)) && decide ((low.length : Int) ≤ 3)) && !((high.length : Int) != low.length) && rngB (8 * 2 ^ k.toNat) low high && ((k == 0) || oddB low high)
theorem power_ok (lim : Nat) (k : Nat) (H : AHeap) (hk : k ≤ 60) : ACalls Tryz.prog lim n_spec_dyPower [.int .i64 k] H fun v H' => v = .int .i64 (2 ^ k) ∧ H' = H := by
 refine is_spec_dyPower.go rfl ?_
 unfold c_spec_dyPower
 refine s_reg ?_
 simp only [o_pure, o_nil, POp.ev, Opd.ev, env0, gu, setD, List.set, xsj, xel]
 refine s_reg ?_
 have h1 : IntKind.u64.wrap (k : Int) = k := by simp [IntKind.wrap, IntKind.signed, IntKind.bits]; omega
 have h2 : ¬ ((k : Int) < 0) := by omega
 have h3 : IntKind.i64.wrap (1 * 2 ^ min (k : Int).toNat IntKind.i64.bits) = 2 ^ k := by
   have hb : IntKind.i64.bits = 64 := rfl
   have : min (k : Int).toNat IntKind.i64.bits = k := by rw [hb]; omega
   rw [this, Int.one_mul]
   have h5 := two_pow hk
   exact wrap_small (by omega) (by omega)
 simp only [o_pure, o_nil, POp.ev, Opd.ev, gv, setD, List.set, xsj, xel, binV, convV, h1, if_neg h2, h3]
 refine s_ret1 ?_
 simp +decide only [pfr, resV, resOne, gv, xsj, xel]
def BoxV (H : AHeap) (v : Value) (k : Int) (low high : List Int) : Prop := ∃ s t, v = .agg #[.int .i64 k, s, t] ∧ SlI H s low ∧ SlI H t high
theorem BoxV.keep {H H' : AHeap} {v : Value} {k : Int} {low high : List Int} (h : BoxV H v k low high) (hx : Ext H H') : BoxV H' v k low high := by
 obtain ⟨s, t, h1, h2, h3⟩ := h
 exact ⟨s, t, h1, h2.keep (Keep.of_ext hx (Nat.le_refl _)) (Nat.le_refl _), h3.keep (Keep.of_ext hx (Nat.le_refl _)) (Nat.le_refl _)⟩
theorem bxGood_ok (lim : Nat) (v : Value) (k : Int) (low high : List Int) (H : AHeap) (hl : lim ≤ H.next) (hv : BoxV H v k low high) (hn : low.length ≤ 1000000000) (hn2 : high.length ≤ 1000000000) :
   ACalls Tryz.prog lim n_spec_bxGood [v] H fun v H' => v = .bool (goodB k low high) ∧ Ext H H' := by
 obtain ⟨s, t, rfl, hs, ht⟩ := hv
 refine is_spec_bxGood.go rfl ?_
 unfold c_spec_bxGood
 refine s_reg ?_
 simp only [o_pure, o_eff, o_nil, POp.ev, Opd.ev, EOp.ev, env0, gu, gv, setD, List.set, xms, xsj, xel, boxH, cellsV]
 have hx : Ext H (H.alloc [.int .i64 k, s, t]) := Ext.alloc _ _
 have hs' := hs.keep (Keep.of_ext hx (Nat.le_refl _)) (Nat.le_refl _)
 have ht' := ht.keep (Keep.of_ext hx (Nat.le_refl _)) (Nat.le_refl _)
 have c0 : (H.alloc [.int .i64 k, s, t]).cell H.next 0 = some (.int .i64 k) := alloc_cell _ _ _
 have c1 : (H.alloc [.int .i64 k, s, t]).cell H.next 1 = some s := alloc_cell _ _ _
 have c2 : (H.alloc [.int .i64 k, s, t]).cell H.next 2 = some t := alloc_cell _ _ _
 generalize H.alloc [.int .i64 k, s, t] = H1 at hx hs' ht' c0 c1 c2 ⊢
 refine s_test_same (!((decide (0 ≤ k) && decide (k ≤ 8)) && (decide (1 ≤ (low.length : Int)) && decide ((low.length : Int) ≤ 3)) && !((high.length : Int) != low.length))) ?_ (fun h => ?_) (fun h => ?_)
 · simp only [o_pure, o_callF, POp.ev, Opd.ev, gv, setD, List.map, xsj, xel, load1V, fadV, c0, Nat.zero_add]
   refine (l1In_ok _ _ _ _ _).eq ?_
   generalize (decide (0 ≤ k) && decide (k ≤ 8)) = A
   cases A
   · simp only [o_cont, o_pure, o_guard, gk_tf, o_nil, POp.ev, Opd.ev, gv, setD, xsj, xel, pickV, unV, Bool.not_false]
     simp
   · simp only [o_cont, o_pure, o_callF, o_guard, gk_ff, POp.ev, Opd.ev, gv, setD, List.map, xsj, xel, load1V, unV, fadV, Bool.not_true, c1, hs'.lenV, Nat.zero_add]
     refine (l1In_ok _ _ _ _ _).eq ?_
     generalize (decide (1 ≤ (low.length : Int)) && decide ((low.length : Int) ≤ 3)) = B
     cases B
     · simp only [o_cont, o_pure, o_guard, gk_ff, gk_tf, o_nil, POp.ev, Opd.ev, gv, setD, xsj, xel, pickV, unV, Bool.not_false]
       simp
     · simp only [o_cont, o_pure, o_guard, gk_ff, o_nil, POp.ev, Opd.ev, gv, setD, xsj, xel, pickV, binV, load1V, unV, fadV, ne_eq, xnt, if_false, Bool.not_true, c1, c2, hs'.lenV, ht'.lenV, Nat.zero_add]
       simp
 · refine s_reg ?_
   simp only [o_pure, o_nil, POp.ev, Opd.ev, setD, List.set, xsj, xel]
   refine s_ret1 ?_
   simp +decide only [pqr, pfr, resV, resOne, gv, xsj, xel]
   simp only [Bool.not_eq_true'] at h
   exact ⟨by simp only [goodB, h, Bool.false_and], hx⟩
 · simp only [Bool.not_eq_false'] at h
   refine s_skip1 ?_
   simp +decide only [pqn]
   have hh := h
   simp only [Bool.and_eq_true, decide_eq_true_eq, Bool.not_eq_true', bne_eq_false_iff_eq] at hh
   obtain ⟨⟨⟨hk0, hk8⟩, hl1, hl3⟩, hlen⟩ := hh
   obtain ⟨kn, rfl⟩ : ∃ kn : Nat, k = kn := ⟨k.toNat, by omega⟩
   have hlen' : high.length = low.length := by omega
   have hp := two_pow (n := kn) (m := 8) (by omega)
   have hwm : IntKind.i64.wrap (8 * 2 ^ kn) = 8 * 2 ^ kn := wrap_small (by omega) (by omega)
   refine s_reg ?_
   simp only [o_pure, o_callF, POp.ev, Opd.ev, gv, setD, List.map, xsj, xel, load1V, fadV, c0, Nat.zero_add]
   refine (power_ok _ _ _ (by omega)).eq ?_
   simp only [o_cont, o_pure, o_nil, POp.ev, Opd.ev, gv, setD, List.set, xsj, xel, binV, ne_eq, xnt, if_false, hwm]
   refine s_reg ?_
   simp only [o_pure, o_nil, POp.ev, Opd.ev, gv, setD, List.set, xsj, xel, binV, load1V, fadV, ne_eq, xnt, if_false, c0, Nat.zero_add]
   refine s_assoc (s_reg ?_)
   simp only [o_pure, o_nil, POp.ev, Opd.ev, gv, setD, List.set, xsj, xel, load1V, fadV, c1, hs'.lenV, Nat.zero_add]
   have hM : (0 : Int) ≤ 8 * 2 ^ kn ∧ (8 : Int) * 2 ^ kn ≤ 2048 := by omega
   have hgood : goodB kn low high = (rngB (8 * 2 ^ kn) low high && (((kn : Int) == 0) || oddB low high)) := by simp only [goodB, h, Bool.true_and, Int.toNat_natCast]
   generalize (8 : Int) * 2 ^ kn = M at hM hgood ⊢
   refine s_block ?_
   refine s_loop1 (fun n e' H' => H' = H1 ∧ ∃ (i : Nat) (od : Bool) (x5 x6 x7 : Value), i + n = low.length ∧ (rngB M low high && (((kn : Int) == 0) || oddB low high)) = (rngB M (low.drop i) (high.drop i) && (od || oddB (low.drop i) (high.drop i))) ∧
     e' = [.agg #[.int .i64 kn, s, t], .pointer (some ⟨H.next, 0, none⟩), .bool false, .int .i64 M, .bool od, x5, x6, x7, s, .int .i64 low.length, .int .i64 i]) low.length ⟨rfl, 0, _, _, _, _, by omega, by simp, rfl⟩ ?_
   rintro n e' _ ⟨rfl, i, od, x5, x6, x7, hin, hall, rfl⟩
   refine s_test ?_
   simp only [o_pure, o_nil, POp.ev, Opd.ev, gv, setD, xsj, xel, binV, ne_eq, xnt, if_false]
   refine Test.split (fun hlt => ?_) (fun hlt => ?_)
   · have hlt' : i < low.length := by simpa using hlt
     have hlt2 : i < high.length := by omega
     rw [List.drop_eq_getElem_cons hlt', List.drop_eq_getElem_cons hlt2] at hall
     simp only [rngB, oddB] at hall
     refine s_skip1 ?_
     simp +decide only [pqn]
     refine s_block ?_
     obtain ⟨bb, o, h1, h2, h3⟩ := SlI.get hs' hlt'
     obtain ⟨bb', o', h1', h2', h3'⟩ := SlI.get ht' hlt2
     refine s_reg ?_
     simp only [o_pure, o_nil, POp.ev, Opd.ev, gv, setD, List.set, xsj, xel, load1V, h1, h3]
     refine s_reg ?_
     simp only [o_pure, o_nil, POp.ev, Opd.ev, gv, setD, List.set, xsj, xel, load1V, fadV, c2, h1', h3', Nat.zero_add]
     generalize low[i] = x at hall h3 ⊢
     generalize high[i] = y at hall h3' ⊢
     have hneg : IntKind.i64.wrap (0 - M) = -M := by rw [IntKind.wrap_i64]; omega
     refine s_test_same (!((decide (-M ≤ x) && decide (x ≤ M)) && (decide (-M ≤ y) && decide (y ≤ M)) && decide (x < y))) ?_ (fun hg => ?_) (fun hg => ?_)
     · simp only [o_pure, o_callF, POp.ev, Opd.ev, gv, setD, List.map, xsj, xel, unV, hneg]
       refine (l1In_ok _ _ _ _ _).eq ?_
       generalize (decide (-M ≤ x) && decide (x ≤ M)) = A
       cases A
       · simp only [o_cont, o_pure, o_guard, gk_tf, o_nil, POp.ev, Opd.ev, gv, setD, xsj, xel, pickV, unV, Bool.not_false]
         simp
       · simp only [o_cont, o_pure, o_callF, o_guard, gk_ff, POp.ev, Opd.ev, gv, setD, List.map, xsj, xel, unV, Bool.not_true, hneg]
         refine (l1In_ok _ _ _ _ _).eq ?_
         generalize (decide (-M ≤ y) && decide (y ≤ M)) = B
         cases B
         · simp only [o_cont, o_pure, o_guard, gk_ff, gk_tf, o_nil, POp.ev, Opd.ev, gv, setD, xsj, xel, pickV, unV, Bool.not_false]
           simp
         · simp only [o_cont, o_pure, o_guard, gk_ff, o_nil, POp.ev, Opd.ev, gv, setD, xsj, xel, pickV, binV, unV, ne_eq, xnt, if_false, Bool.not_true]
           by_cases hxy : x < y
           · simp [hxy]
           · simp [hxy]; omega
     · refine s_reg ?_
       simp only [o_pure, o_nil, POp.ev, Opd.ev, setD, List.set, xsj, xel]
       refine s_ret1 ?_
       simp +decide only [pqr, pbr, pfr, resV, resOne, gv, xsj, xel]
       simp only [Bool.not_eq_true'] at hg
       rw [hg, Bool.false_and, Bool.false_and] at hall
       exact ⟨by rw [hgood, hall], hx⟩
     · simp only [Bool.not_eq_false'] at hg
       rw [hg, Bool.true_and] at hall
       refine s_skip1 ?_
       simp +decide only [pqn]
       refine s_reg1_cut [.agg #[.int .i64 kn, s, t], .pointer (some ⟨H.next, 0, none⟩), .bool false, .int .i64 M, .bool (od || (x.tmod 2 != 0 || y.tmod 2 != 0)), .int .i64 i, .int .i64 x, .int .i64 y, s, .int .i64 low.length, .int .i64 i] ?_ ?_
       · have e2 : ¬ ((2 : Int) = 0) := by decide
         cases od
         · cases hxo : (x.tmod 2 != 0)
           · simp only [o_pure, o_guard, gk_ff, o_nil, POp.ev, Opd.ev, gv, setD, List.set, xsj, xel, pickV, binV, ne_eq, xnt, if_false, if_neg e2, hxo]
             simp
           · simp only [o_pure, o_guard, gk_ff, gk_tf, o_nil, POp.ev, Opd.ev, gv, setD, List.set, xsj, xel, pickV, binV, ne_eq, xnt, if_false, if_neg e2, hxo]
             simp
         · simp only [o_pure, o_guard, gk_tf, o_nil, POp.ev, Opd.ev, gv, setD, List.set, xsj, xel, pickV]
           simp
       · simp +decide only [pqn, pbn]
         refine s_reg1 ?_
         simp only [o_pure, o_nil, POp.ev, Opd.ev, gv, setD, List.set, xsj, xel, binV, ne_eq, xnt, if_false, add1 (i := i) (by omega)]
         simp +decide only [pqn]
         exact Round.mk (n - 1) (by omega) ⟨rfl, i + 1, _, _, _, _, by omega, by rw [hall]; simp only [Bool.or_assoc], rfl⟩
   · have hge : low.length ≤ i := by simp at hlt; omega
     rw [List.drop_of_length_le hge, List.drop_of_length_le (by omega)] at hall
     refine s_exit1 ?_
     simp +decide only [pqn, pqe, pbe, reduceIte]
     refine s_reg ?_
     simp only [o_pure, o_nil, POp.ev, Opd.ev, gv, setD, List.set, xsj, xel]
     refine s_ret1 ?_
     simp +decide only [pfr, resV, resOne, gv, xsj, xel]
     refine ⟨?_, hx⟩
     rw [hgood, hall]
     simp [rngB, oddB]
structure BoxP (H : AHeap) (p : Nat) (k : Int) (s t : Value) (low high : List Int) : Prop where
 blk : H.blk p = some [.int .i64 k, s, t]
 low : SlI H s low
 high : SlI H t high
theorem BoxP.c0 {H : AHeap} {p : Nat} {k : Int} {s t : Value} {low high : List Int} (h : BoxP H p k s t low high) : H.cell p 0 = some (.int .i64 k) := cell_blk h.blk 0
theorem BoxP.c1 {H : AHeap} {p : Nat} {k : Int} {s t : Value} {low high : List Int} (h : BoxP H p k s t low high) : H.cell p 1 = some s := cell_blk h.blk 1
theorem BoxP.c2 {H : AHeap} {p : Nat} {k : Int} {s t : Value} {low high : List Int} (h : BoxP H p k s t low high) : H.cell p 2 = some t := cell_blk h.blk 2
theorem isBox_ok (lim : Nat) {p : Nat} {k : Int} {s t : Value} {low high : List Int} {H : AHeap} (hb : BoxP H p k s t low high) (hn : low.length ≤ 1000000000) (hn2 : high.length ≤ 1000000000) :
   ACalls Tryz.prog lim n_impl_isBox [.pointer (some ⟨p, 0, none⟩)] H fun v H' => v = .bool (goodB k low high) ∧ H' = H := by
 have c0 := hb.c0
 have c1 := hb.c1
 have c2 := hb.c2
 have hs' := hb.low
 have ht' := hb.high
 refine is_impl_isBox.go rfl ?_
 unfold c_impl_isBox
 refine s_reg ?_
 simp only [o_pure, o_nil, POp.ev, Opd.ev, env0, gu, setD, List.set, xsj, xel]
 refine s_test_same (!((decide (0 ≤ k) && decide (k ≤ 8)) && (decide (1 ≤ (low.length : Int)) && decide ((low.length : Int) ≤ 3)) && !((high.length : Int) != low.length))) ?_ (fun h => ?_) (fun h => ?_)
 · simp only [o_pure, o_callF, POp.ev, Opd.ev, gv, setD, List.map, xsj, xel, load1V, nilchkV, fadV, c0, Nat.zero_add]
   refine (inside_ok _ _ _ _ _).eq ?_
   generalize (decide (0 ≤ k) && decide (k ≤ 8)) = A
   cases A
   · simp only [o_cont, o_pure, o_guard, gk_tf, o_nil, POp.ev, Opd.ev, gv, setD, xsj, xel, pickV, unV, Bool.not_false]
     simp
   · simp only [o_cont, o_pure, o_callF, o_guard, gk_ff, POp.ev, Opd.ev, gv, setD, List.map, xsj, xel, load1V, nilchkV, unV, fadV, Bool.not_true, c1, hs'.lenV, Nat.zero_add]
     refine (inside_ok _ _ _ _ _).eq ?_
     generalize (decide (1 ≤ (low.length : Int)) && decide ((low.length : Int) ≤ 3)) = B
     cases B
     · simp only [o_cont, o_pure, o_guard, gk_ff, gk_tf, o_nil, POp.ev, Opd.ev, gv, setD, xsj, xel, pickV, unV, Bool.not_false]
       simp
     · simp only [o_cont, o_pure, o_guard, gk_ff, o_nil, POp.ev, Opd.ev, gv, setD, xsj, xel, pickV, binV, load1V, nilchkV, unV, fadV, ne_eq, xnt, if_false, Bool.not_true, c1, c2, hs'.lenV, ht'.lenV, Nat.zero_add]
       simp
 · refine s_reg ?_
   simp only [o_pure, o_nil, POp.ev, Opd.ev, setD, List.set, xsj, xel]
   refine s_ret1 ?_
   simp +decide only [pqr, pfr, resV, resOne, gv, xsj, xel]
   simp only [Bool.not_eq_true'] at h
   exact ⟨by simp only [goodB, h, Bool.false_and], trivial⟩
 · simp only [Bool.not_eq_false'] at h
   refine s_skip1 ?_
   simp +decide only [pqn]
   have hh := h
   simp only [Bool.and_eq_true, decide_eq_true_eq, Bool.not_eq_true', bne_eq_false_iff_eq] at hh
   obtain ⟨⟨⟨hk0, hk8⟩, hl1, hl3⟩, hlen⟩ := hh
   obtain ⟨kn, rfl⟩ : ∃ kn : Nat, k = kn := ⟨k.toNat, by omega⟩
   have hlen' : high.length = low.length := by omega
   have hp := two_pow (n := kn) (m := 8) (by omega)
   have hkm : IntKind.i64.wrap (8 * 2 ^ min (kn : Int).toNat IntKind.i64.bits) = 8 * 2 ^ kn := by
     have hb : IntKind.i64.bits = 64 := rfl
     have : min (kn : Int).toNat IntKind.i64.bits = kn := by rw [hb]; omega
     rw [this]
     exact wrap_small (by omega) (by omega)
   have hk0' : ¬ ((kn : Int) < 0) := by omega
   refine s_reg ?_
   simp only [o_pure, o_nil, POp.ev, Opd.ev, gv, setD, List.set, xsj, xel, binV, load1V, nilchkV, fadV, ne_eq, xnt, if_false, c0, Nat.zero_add, if_neg hk0', hkm]
   refine s_assoc (s_reg ?_)
   simp only [o_pure, o_nil, POp.ev, Opd.ev, gv, setD, List.set, xsj, xel, load1V, nilchkV, fadV, c1, hs'.lenV, Nat.zero_add]
   have hM : (0 : Int) ≤ 8 * 2 ^ kn ∧ (8 : Int) * 2 ^ kn ≤ 2048 := by omega
   have hgood : goodB kn low high = (rngB (8 * 2 ^ kn) low high && (((kn : Int) == 0) || oddB low high)) := by simp only [goodB, h, Bool.true_and, Int.toNat_natCast]
   generalize (8 : Int) * 2 ^ kn = M at hM hgood ⊢
   refine s_block ?_
   refine s_loop1 (fun n e' H' => H' = H ∧ ∃ (i : Nat) (od : Bool) (x4 x5 : Value), i + n = low.length ∧ (rngB M low high && (((kn : Int) == 0) || oddB low high)) = (rngB M (low.drop i) (high.drop i) && (od || oddB (low.drop i) (high.drop i))) ∧
     e' = [.pointer (some ⟨p, 0, none⟩), .bool false, .int .i64 M, .bool od, x4, x5, s, .int .i64 low.length, .int .i64 i]) low.length ⟨rfl, 0, _, _, _, by omega, by simp, rfl⟩ ?_
   rintro n e' _ ⟨rfl, i, od, x4, x5, hin, hall, rfl⟩
   refine s_test ?_
   simp only [o_pure, o_nil, POp.ev, Opd.ev, gv, setD, xsj, xel, binV, ne_eq, xnt, if_false]
   refine Test.split (fun hlt => ?_) (fun hlt => ?_)
   · have hlt' : i < low.length := by simpa using hlt
     have hlt2 : i < high.length := by omega
     rw [List.drop_eq_getElem_cons hlt', List.drop_eq_getElem_cons hlt2] at hall
     simp only [rngB, oddB] at hall
     refine s_skip1 ?_
     simp +decide only [pqn]
     refine s_block ?_
     obtain ⟨bb, o, h1, h2, h3⟩ := SlI.get hs' hlt'
     obtain ⟨bb', o', h1', h2', h3'⟩ := SlI.get ht' hlt2
     refine s_reg ?_
     simp only [o_pure, o_nil, POp.ev, Opd.ev, gv, setD, List.set, xsj, xel, load1V, h1, h3]
     generalize low[i] = x at hall h3 ⊢
     generalize high[i] = y at hall h3' ⊢
     have hneg : IntKind.i64.wrap (0 - M) = -M := by rw [IntKind.wrap_i64]; omega
     refine s_test_same (!((decide (-M ≤ x) && decide (x ≤ M)) && (decide (-M ≤ y) && decide (y ≤ M)) && decide (x < y))) ?_ (fun hg => ?_) (fun hg => ?_)
     · simp only [o_pure, o_callF, POp.ev, Opd.ev, gv, setD, List.map, xsj, xel, unV, hneg]
       refine (inside_ok _ _ _ _ _).eq ?_
       cases hA : (decide (-M ≤ x) && decide (x ≤ M))
       · simp only [o_cont, o_pure, o_guard, gk_tf, o_nil, POp.ev, Opd.ev, gv, setD, xsj, xel, pickV, unV, Bool.not_false]
         simp
       · simp only [Bool.and_eq_true, decide_eq_true_eq] at hA
         have hx1 : IntKind.i64.wrap (x + 1) = x + 1 := by rw [IntKind.wrap_i64]; omega
         simp only [o_cont, o_pure, o_callF, o_guard, gk_ff, POp.ev, Opd.ev, gv, setD, List.map, xsj, xel, binV, load1V, nilchkV, unV, fadV, ne_eq, xnt, if_false, Bool.not_true, c2, h1', h3', hx1, Nat.zero_add]
         refine (inside_ok _ _ _ _ _).eq ?_
         have hB : (decide (x + 1 ≤ y) && decide (y ≤ M)) = ((decide (-M ≤ y) && decide (y ≤ M)) && decide (x < y)) := by
           rw [Bool.eq_iff_iff]
           simp only [Bool.and_eq_true, decide_eq_true_eq]
           omega
         rw [hB]
         simp only [Bool.true_and]
         generalize ((decide (-M ≤ y) && decide (y ≤ M)) && decide (x < y)) = B
         simp only [o_cont, o_pure, o_guard, gk_ff, o_nil, POp.ev, Opd.ev, gv, setD, xsj, xel, pickV, unV]
         simp
     · refine s_reg ?_
       simp only [o_pure, o_nil, POp.ev, Opd.ev, setD, List.set, xsj, xel]
       refine s_ret1 ?_
       simp +decide only [pqr, pbr, pfr, resV, resOne, gv, xsj, xel]
       simp only [Bool.not_eq_true'] at hg
       rw [hg, Bool.false_and, Bool.false_and] at hall
       exact ⟨by rw [hgood, hall], trivial⟩
     · simp only [Bool.not_eq_false'] at hg
       rw [hg, Bool.true_and] at hall
       refine s_skip1 ?_
       simp +decide only [pqn]
       refine s_reg1_cut [.pointer (some ⟨p, 0, none⟩), .bool false, .int .i64 M, .bool (od || (x.tmod 2 != 0 || y.tmod 2 != 0)), .int .i64 i, .int .i64 x, s, .int .i64 low.length, .int .i64 i] ?_ ?_
       · have e2 : ¬ ((2 : Int) = 0) := by decide
         cases od
         · cases hxo : (x.tmod 2 != 0)
           · simp only [o_pure, o_guard, gk_ff, o_nil, POp.ev, Opd.ev, gv, setD, List.set, xsj, xel, pickV, binV, load1V, nilchkV, fadV, ne_eq, xnt, if_false, if_neg e2, hxo, c2, h1', h3', Nat.zero_add]
             simp
           · simp only [o_pure, o_guard, gk_ff, gk_tf, o_nil, POp.ev, Opd.ev, gv, setD, List.set, xsj, xel, pickV, binV, ne_eq, xnt, if_false, if_neg e2, hxo]
             simp
         · simp only [o_pure, o_guard, gk_tf, o_nil, POp.ev, Opd.ev, gv, setD, List.set, xsj, xel, pickV]
           simp
       · simp +decide only [pqn, pbn]
         refine s_reg1 ?_
         simp only [o_pure, o_nil, POp.ev, Opd.ev, gv, setD, List.set, xsj, xel, binV, ne_eq, xnt, if_false, add1 (i := i) (by omega)]
         simp +decide only [pqn]
         exact Round.mk (n - 1) (by omega) ⟨rfl, i + 1, _, _, _, by omega, by rw [hall]; simp only [Bool.or_assoc], rfl⟩
   · have hge : low.length ≤ i := by simp at hlt; omega
     rw [List.drop_of_length_le hge, List.drop_of_length_le (by omega)] at hall
     refine s_exit1 ?_
     simp +decide only [pqn, pqe, pbe, reduceIte]
     refine s_reg ?_
     simp only [o_pure, o_nil, POp.ev, Opd.ev, gv, setD, List.set, xsj, xel]
     refine s_ret1 ?_
     simp +decide only [pfr, resV, resOne, gv, xsj, xel]
     refine ⟨?_, trivial⟩
     rw [hgood, hall]
     simp [rngB, oddB]
theorem goodB_small {k : Int} {low high : List Int} (h : goodB k low high = true) : 0 ≤ k ∧ k ≤ 8 ∧ 1 ≤ low.length ∧ low.length ≤ 3 ∧ high.length = low.length ∧ (∀ x ∈ low, -2048 ≤ x ∧ x ≤ 2048) ∧ (∀ x ∈ high, -2048 ≤ x ∧ x ≤ 2048) := by
 simp only [goodB, Bool.and_eq_true, decide_eq_true_eq, Bool.not_eq_true', bne_eq_false_iff_eq] at h
 obtain ⟨⟨⟨⟨⟨h1, h2⟩, h3, h4⟩, h5⟩, h6⟩, _⟩ := h
 have hp := two_pow (n := k.toNat) (m := 8) (by omega)
 have key : ∀ (m : Int) (low high : List Int), m ≤ 2048 → high.length = low.length → rngB m low high = true → (∀ x ∈ low, -2048 ≤ x ∧ x ≤ 2048) ∧ (∀ x ∈ high, -2048 ≤ x ∧ x ≤ 2048) := by
   intro m low
   induction low with
   | nil =>
     intro high _ hl _
     have : high = [] := List.length_eq_zero_iff.1 (by simpa using hl)
     subst this
     simp
   | cons x l ih =>
     intro high hm hl hr
     match high, hl with
     | y :: h, hl =>
       simp only [rngB, Bool.and_eq_true, decide_eq_true_eq] at hr
       obtain ⟨⟨⟨⟨a1, a2⟩, a3, a4⟩, a5⟩, a6⟩ := hr
       obtain ⟨i1, i2⟩ := ih h hm (by simpa using hl) a6
       exact ⟨by intro z hz; rcases List.mem_cons.1 hz with rfl | hz; omega; exact i1 z hz, by intro z hz; rcases List.mem_cons.1 hz with rfl | hz; omega; exact i2 z hz⟩
 obtain ⟨k1, k2⟩ := key _ low high (by omega) (by omega) h6
 exact ⟨h1, h2, by omega, by omega, by omega, k1, k2⟩
structure BxE (H H1 : AHeap) (p r : Nat) (k : Int) (s t : Value) (low high : List Int) : Prop where
 ext : Ext H H1
 ge : H.next ≤ p ∧ H.next ≤ r ∧ p ≠ r
 lt : p < H1.next ∧ r < H1.next
 bp : H1.blk p = some [.int .i64 k, s, t]
 br : H1.blk r = some [.int .i64 0, .slice none 0 0, .slice none 0 0]
 sl : SlI H1 s low
 sh : SlI H1 t high
theorem BxE.mono {H H1 H2 : AHeap} {p r : Nat} {k : Int} {s t : Value} {low high : List Int} (h : BxE H H1 p r k s t low high) (hx : Ext H1 H2) : BxE H H2 p r k s t low high := by
 obtain ⟨h1, h2, h3, h4, h5, h6, h7⟩ := h
 have hn := hx.next
 exact ⟨h1.trans hx, h2, by omega, by rw [hx.blk _ h3.1]; exact h4, by rw [hx.blk _ h3.2]; exact h5, h6.keep (Keep.of_ext hx (Nat.le_refl _)) (Nat.le_refl _), h7.keep (Keep.of_ext hx (Nat.le_refl _)) (Nat.le_refl _)⟩
theorem BxE.mk' {H : AHeap} {k : Int} {s t : Value} {low high : List Int} (hs : SlI H s low) (ht : SlI H t high) :
   BxE H ((H.alloc [.int .i64 k, s, t]).alloc [.int .i64 0, .slice none 0 0, .slice none 0 0]) H.next (H.next + 1) k s t low high := by
 have hx : Ext H ((H.alloc [.int .i64 k, s, t]).alloc [.int .i64 0, .slice none 0 0, .slice none 0 0]) := (Ext.alloc _ _).trans (Ext.alloc _ _)
 refine ⟨hx, by omega, by simp only [alloc_next]; omega, ?_, alloc_new _ _, hs.keep (Keep.of_ext hx (Nat.le_refl _)) (Nat.le_refl _), ht.keep (Keep.of_ext hx (Nat.le_refl _)) (Nat.le_refl _)⟩
 rw [alloc_old _ _ (Nat.lt_succ_self _)]
 exact alloc_new _ _
theorem BxE.chg {H H1 H2 : AHeap} {p r b : Nat} {k : Int} {s t : Value} {low high : List Int} (h : BxE H H1 p r k s t low high) (hs : SlI H s low) (ht : SlI H t high) (hc : Chg b H1 H2) (hb : H.next ≤ b) (hp : p ≠ b) (hr : r ≠ b) :
   BxE H H2 p r k s t low high := by
 have hx := hc.ext h.ext hb
 have hn := hc.next
 have hl := h.lt
 exact ⟨hx, h.ge, by omega, by rw [hc.blk _ hl.1 hp]; exact h.bp, by rw [hc.blk _ hl.2 hr]; exact h.br, hs.keep (Keep.of_ext hx (Nat.le_refl _)) (Nat.le_refl _), ht.keep (Keep.of_ext hx (Nat.le_refl _)) (Nat.le_refl _)⟩
theorem szBox_ok (lim : Nat) (x : Value) (k : Int) (low high : List Int) (left : Int) (H : AHeap) (hl : lim ≤ H.next) (hv : BoxV H x k low high) (hn : low.length ≤ 20000000000000) (hn2 : high.length ≤ 20000000000000) (h0 : -20000000000000 ≤ left) (h1 : left ≤ 1000000000) :
   ACalls Tryz.prog lim n_laws_szBox [x, .int .i64 left] H fun v H' => (∃ r : Int, v = .int .i64 r ∧ (¬ r < 0 → (low.length : Int) + high.length ≤ left)) ∧ Ext H H' := by
 obtain ⟨s, t, rfl, hs, ht⟩ := hv
 refine is_laws_szBox.go rfl ?_
 unfold c_laws_szBox
 refine s_reg ?_
 simp only [o_pure, o_eff, o_nil, POp.ev, Opd.ev, EOp.ev, env0, gu, gv, setD, List.set, xms, xsj, xel, boxH, cellsV]
 have hx : Ext H (H.alloc [.int .i64 k, s, t]) := Ext.alloc _ _
 have hbp : (H.alloc [.int .i64 k, s, t]).blk H.next = some [.int .i64 k, s, t] := alloc_new _ _
 have hs' := hs.keep (Keep.of_ext hx (Nat.le_refl _)) (Nat.le_refl _)
 have ht' := ht.keep (Keep.of_ext hx (Nat.le_refl _)) (Nat.le_refl _)
 generalize H.alloc [.int .i64 k, s, t] = H1 at hx hbp hs' ht' ⊢
 refine s_reg ?_
 simp only [o_pure, o_callF, POp.ev, Opd.ev, gv, setD, List.map, xsj, xel, load1V, fadV, xgz, xgs, cell_blk hbp, Nat.zero_add]
 refine (szIntS_ok _ _ _ _ _ hs' h0 h1 hn).eq ?_
 by_cases c1 : left - low.length < 0
 · rw [if_pos c1]
   simp only [o_cont, o_pure, o_nil, POp.ev, Opd.ev, gv, setD, List.set, xsj, xel]
   have d1 : decide ((-1 : Int) < 0) = true := by decide
   refine s_test ?_
   simp only [o_pure, o_nil, POp.ev, Opd.ev, gv, setD, xsj, xel, binV, ne_eq, xnt, if_false, d1]
   refine Test.true_ (s_reg ?_)
   simp only [o_pure, o_nil, POp.ev, Opd.ev, setD, List.set, xsj, xel]
   refine s_ret1 ?_
   simp +decide only [pqr, pfr, resV, resOne, gv, xsj, xel]
   exact ⟨⟨_, rfl, by omega⟩, hx⟩
 · rw [if_neg c1]
   simp only [o_cont, o_pure, o_nil, POp.ev, Opd.ev, gv, setD, List.set, xsj, xel]
   have d1 : decide (left - (low.length : Int) < 0) = false := by simpa using c1
   refine s_test ?_
   simp only [o_pure, o_nil, POp.ev, Opd.ev, gv, setD, xsj, xel, binV, ne_eq, xnt, if_false, d1]
   refine Test.false_ (s_skip1 ?_)
   simp +decide only [pqn]
   refine s_reg ?_
   simp only [o_pure, o_callF, POp.ev, Opd.ev, gv, setD, List.map, xsj, xel, load1V, fadV, xgz, xgs, cell_blk hbp, Nat.zero_add]
   refine (szIntS_ok _ _ _ _ _ ht' (by omega) (by omega) hn2).eq ?_
   simp only [o_cont, o_pure, o_nil, POp.ev, Opd.ev, gv, setD, List.set, xsj, xel]
   refine s_test ?_
   simp only [o_pure, o_nil, POp.ev, Opd.ev, gv, setD, xsj, xel, binV, ne_eq, xnt, if_false]
   refine Test.split (fun h => ?_) (fun h => ?_)
   · refine s_reg ?_
     simp only [o_pure, o_nil, POp.ev, Opd.ev, setD, List.set, xsj, xel]
     refine s_ret1 ?_
     simp +decide only [pqr, pfr, resV, resOne, gv, xsj, xel]
     exact ⟨⟨_, rfl, by omega⟩, hx⟩
   · refine s_skip1 ?_
     simp +decide only [pqn]
     refine s_reg ?_
     simp only [o_pure, o_nil, POp.ev, Opd.ev, gv, setD, List.set, xsj, xel]
     refine s_ret1 ?_
     simp +decide only [pfr, resV, resOne, gv, xsj, xel]
     refine ⟨⟨_, rfl, fun hr => ?_⟩, hx⟩
     split at hr <;> omega
theorem intactBox_ok (lim : Nat) (k : Int) (low high : List Int) (b c b' c' : Nat) (s t s' t' : Value) (H : AHeap) (hl : lim ≤ H.next) (h1 : Laid H b s low) (h2 : Laid H c t high) (h3 : Laid H b' s' low) (h4 : Laid H c' t' high) (hn : low.length ≤ 1000000) (hn2 : high.length ≤ 1000000) :
   ACalls Tryz.prog lim n_laws_intactBox [.agg #[.int .i64 k, s, t], .agg #[.int .i64 k, s', t']] H fun v H' => v = .bool true ∧ Ext H H' := by
 refine is_laws_intactBox.go rfl ?_
 unfold c_laws_intactBox
 refine s_reg ?_
 simp only [o_pure, o_eff, o_nil, POp.ev, Opd.ev, EOp.ev, env0, gu, gv, setD, List.set, xms, xsj, xel, boxH, cellsV]
 have hx : Ext H ((H.alloc [.int .i64 k, s, t]).alloc [.int .i64 k, s', t']) := (Ext.alloc _ _).trans (Ext.alloc _ _)
 have hbp : ((H.alloc [.int .i64 k, s, t]).alloc [.int .i64 k, s', t']).blk H.next = some [.int .i64 k, s, t] := by rw [alloc_old _ _ (Nat.lt_succ_self _)]; exact alloc_new _ _
 have hbq : ((H.alloc [.int .i64 k, s, t]).alloc [.int .i64 k, s', t']).blk (H.alloc [.int .i64 k, s, t]).next = some [.int .i64 k, s', t'] := alloc_new _ _
 generalize (H.alloc [.int .i64 k, s, t]).next = q at hbq ⊢
 generalize (H.alloc [.int .i64 k, s, t]).alloc [.int .i64 k, s', t'] = H1 at hx hbp hbq ⊢
 replace h1 := h1.ext hx
 replace h2 := h2.ext hx
 replace h3 := h3.ext hx
 replace h4 := h4.ext hx
 have d1 : (k != k) = false := by simp
 refine s_test ?_
 simp only [o_pure, o_nil, POp.ev, Opd.ev, gv, setD, xsj, xel, binV, load1V, fadV, ne_eq, xnt, if_false, xgz, cell_blk hbp, cell_blk hbq, Nat.zero_add, d1]
 refine Test.false_ (s_skip1 ?_)
 simp +decide only [pqn]
 refine s_test ?_
 simp only [o_pure, o_callF, POp.ev, Opd.ev, gv, setD, List.map, xsj, xel, load1V, fadV, xgz, xgs, cell_blk hbp, cell_blk hbq, Nat.zero_add]
 obtain ⟨rfl, i1, i2⟩ := h1
 obtain ⟨rfl, j1, j2⟩ := h3
 refine (intactIntS_ok _ _ _ _ _ i2 j2 i1 j1 hn).eq ?_
 simp only [o_cont, o_pure, o_nil, POp.ev, Opd.ev, gv, setD, xsj, xel, unV, Bool.not_true]
 refine Test.false_ (s_skip1 ?_)
 simp +decide only [pqn]
 refine s_test ?_
 simp only [o_pure, o_callF, POp.ev, Opd.ev, gv, setD, List.map, xsj, xel, load1V, fadV, xgz, xgs, cell_blk hbp, cell_blk hbq, Nat.zero_add]
 obtain ⟨rfl, k1, k2⟩ := h2
 obtain ⟨rfl, l1, l2⟩ := h4
 refine (intactIntS_ok _ _ _ _ _ k2 l2 k1 l1 hn2).eq ?_
 simp only [o_cont, o_pure, o_nil, POp.ev, Opd.ev, gv, setD, xsj, xel, unV, Bool.not_true]
 refine Test.false_ (s_skip1 ?_)
 simp +decide only [pqn]
 refine s_reg ?_
 simp only [o_pure, o_nil, POp.ev, Opd.ev, setD, List.set, xsj, xel]
 refine s_ret1 ?_
 simp +decide only [pfr, resV, resOne, gv, xsj, xel]
 exact ⟨trivial, hx⟩
theorem CopyI.put {H : AHeap} {b r : Nat} {v : Value} {l : List Int} {bare : Bool} (h : CopyI H b v l bare) (cs : List Value) (hb : b ≠ r) : CopyI (H.put r cs) b v l bare :=
 h.imp id fun h => ⟨h.1, h.2.1, by rw [put_ne _ _ hb]; exact h.2.2⟩
theorem toIntC_ok (lim : Nat) (s : Value) (l : List Int) (bare : Bool) (H : AHeap) (hl : lim ≤ H.next) (hs : SlI H s l) (hn : l.length ≤ 1000000) :
   ACalls Tryz.prog lim n_laws_toIntS [s, .bool bare] H fun v H' => CopyI H' H.next v l bare ∧ Ext H H' := by
 refine (toIntS_ok lim s l bare H hl hs hn).mono ?_
 intro v H' h
 by_cases h0 : bare = true ∧ l.length = 0
 · rw [if_pos h0] at h
   obtain ⟨rfl, rfl⟩ := h
   exact ⟨.inl ⟨h0.1, List.length_eq_zero_iff.1 h0.2, rfl⟩, Ext.refl _⟩
 · rw [if_neg h0] at h
   obtain ⟨rfl, rfl⟩ := h
   exact ⟨.inr ⟨rfl, Nat.lt_succ_self _, alloc_new _ _⟩, Ext.alloc _ _⟩
theorem toBox_ok (lim : Nat) (x : Value) (k : Int) (low high : List Int) (bare : Bool) (H : AHeap) (hl : lim ≤ H.next) (hv : BoxV H x k low high) (hn : low.length ≤ 1000000) (hn2 : high.length ≤ 1000000) :
   ACalls Tryz.prog lim n_laws_toBox [x, .bool bare] H fun v H' => ∃ s t b c, v = .agg #[.int .i64 k, s, t] ∧ H.next ≤ b ∧ H.next ≤ c ∧ (bare = false → b ≠ c) ∧ CopyI H' b s low bare ∧ CopyI H' c t high bare ∧ Ext H H' := by
 obtain ⟨s, t, rfl, hs, ht⟩ := hv
 refine is_laws_toBox.go rfl ?_
 unfold c_laws_toBox
 refine s_reg ?_
 simp only [o_eff, o_nil, Opd.ev, EOp.ev, env0, gu, gv, setD, List.set, xms, xsj, xel, ne_eq, boxH, cellsV]
 have hE := BxE.mk' (k := k) hs ht
 have hnx : (H.alloc [.int .i64 k, s, t]).next = H.next + 1 := rfl
 rw [hnx]
 generalize (H.alloc [.int .i64 k, s, t]).alloc [.int .i64 0, .slice none 0 0, .slice none 0 0] = H1 at hE ⊢
 generalize H.next + 1 = r at hE ⊢
 have hge := hE.ge
 have hlt := hE.lt
 refine s_reg ?_
 simp only [o_eff, o_nil, EOp.ev, setD, List.set, xsj, xel]
 replace hE := hE.mono (Ext.alloc H1 [.int .i64 0, .slice none 0 0, .slice none 0 0])
 have ho : (H1.alloc [.int .i64 0, .slice none 0 0, .slice none 0 0]).blk H1.next = some [.int .i64 0, .slice none 0 0, .slice none 0 0] := alloc_new _ _
 have hon : H1.next < (H1.alloc [.int .i64 0, .slice none 0 0, .slice none 0 0]).next := Nat.lt_succ_self _
 generalize H1.alloc [.int .i64 0, .slice none 0 0, .slice none 0 0] = H2 at hE ho hon ⊢
 generalize H1.next = q at hlt ho hon ⊢
 have hp1 : storeH lim H2 1 (.pointer (some ⟨q, 0, none⟩)) (.int .i64 k) = some (undef, H2.put q [.int .i64 k, .slice none 0 0, .slice none 0 0]) := store_cell (cells_int .i64 k) (by omega) ho (by simp)
 refine s_reg ?_
 simp only [o_pure, o_eff, o_nil, POp.ev, Opd.ev, EOp.ev, gv, setD, xsj, xel, load1V, fadV, xgz, cell_blk hE.bp, Nat.zero_add, hp1]
 replace hE := hE.chg hs ht (Chg.put q H2 [.int .i64 k, .slice none 0 0, .slice none 0 0]) (by omega) (by omega) (by omega)
 have ho2 := put_same H2 q [.int .i64 k, .slice none 0 0, .slice none 0 0]
 have hon2 : q < (H2.put q [.int .i64 k, .slice none 0 0, .slice none 0 0]).next := hon
 generalize H2.put q [.int .i64 k, .slice none 0 0, .slice none 0 0] = H3 at hE ho2 hon2 ⊢
 have hl3 := hE.lt
 refine s_reg ?_
 simp only [o_pure, o_callF, POp.ev, Opd.ev, gv, setD, List.map, xsj, xel, load1V, fadV, xgz, xgs, cell_blk hE.bp, Nat.zero_add]
 refine (toIntC_ok lim _ _ bare _ (by omega) hE.sl hn).mono ?_
 rintro s1 H4 ⟨hc1, hx4⟩
 have hbc : bare = false → H3.next < H4.next := fun h => by
   rcases hc1 with ⟨h1, _⟩ | h1
   · rw [h] at h1; cases h1
   · exact h1.2.1
 replace hE := hE.mono hx4
 have hn4 := hx4.next
 have ho4 : H4.blk q = some [.int .i64 k, .slice none 0 0, .slice none 0 0] := by rw [hx4.blk _ hon2]; exact ho2
 have hp2 : storeH lim H4 1 (.pointer (some ⟨q, 1, none⟩)) s1 = some (undef, H4.put q [.int .i64 k, s1, .slice none 0 0]) := store_cell hc1.sl.cellsV (by omega) ho4 (by simp)
 simp only [o_cont, o_pure, o_eff, o_nil, POp.ev, Opd.ev, EOp.ev, gv, setD, xsj, xel, fadV, Nat.zero_add, hp2]
 replace hc1 := hc1.put [.int .i64 k, s1, .slice none 0 0] (by omega : H3.next ≠ q)
 replace hE := hE.chg hs ht (Chg.put q H4 [.int .i64 k, s1, .slice none 0 0]) (by omega) (by omega) (by omega)
 have ho5 := put_same H4 q [.int .i64 k, s1, .slice none 0 0]
 have hon5 : q < (H4.put q [.int .i64 k, s1, .slice none 0 0]).next := Nat.lt_of_lt_of_le hon2 hn4
 have hn5 : (H4.put q [.int .i64 k, s1, .slice none 0 0]).next = H4.next := rfl
 generalize H4.put q [.int .i64 k, s1, .slice none 0 0] = H5 at hE hc1 ho5 hon5 hn5 ⊢
 refine s_reg ?_
 simp only [o_pure, o_callF, POp.ev, Opd.ev, gv, setD, List.map, xsj, xel, load1V, fadV, xgz, xgs, cell_blk hE.bp, Nat.zero_add]
 refine (toIntC_ok lim _ _ bare _ (by omega) hE.sh hn2).mono ?_
 rintro t1 H6 ⟨hc2, hx6⟩
 replace hE := hE.mono hx6
 replace hc1 := hc1.ext hx6
 have hn6 := hx6.next
 have ho6 : H6.blk q = some [.int .i64 k, s1, .slice none 0 0] := by rw [hx6.blk _ hon5]; exact ho5
 have hp3 : storeH lim H6 1 (.pointer (some ⟨q, 2, none⟩)) t1 = some (undef, H6.put q [.int .i64 k, s1, t1]) := store_cell hc2.sl.cellsV (by omega) ho6 (by simp)
 simp only [o_cont, o_pure, o_eff, o_nil, POp.ev, Opd.ev, EOp.ev, gv, setD, xsj, xel, fadV, Nat.zero_add, hp3]
 replace hc1 := hc1.put [.int .i64 k, s1, t1] (by omega : H3.next ≠ q)
 replace hc2 := hc2.put [.int .i64 k, s1, t1] (by omega : H5.next ≠ q)
 replace hE := hE.chg hs ht (Chg.put q H6 [.int .i64 k, s1, t1]) (by omega) (by omega) (by omega)
 have ho7 := put_same H6 q [.int .i64 k, s1, t1]
 generalize H6.put q [.int .i64 k, s1, t1] = H7 at hE hc1 hc2 ho7 ⊢
 refine s_reg ?_
 simp only [o_pure, o_eff, o_nil, POp.ev, Opd.ev, EOp.ev, gv, setD, xsj, xel, load3 ho7, store3 (lim := lim) (b := r) (by omega) hE.br]
 refine s_ret1 ?_
 simp +decide only [pfr, resV, resOne, gv, xsj, xel, load3 (put_same _ _ _)]
 refine ⟨s1, t1, H3.next, H5.next, rfl, by omega, by omega, fun h => by have := hbc h; omega, hc1.put _ (by omega), hc2.put _ (by omega), Chg.ext hE.ext (Chg.put _ _ _) (by omega)⟩
end Go.Proofs.YtagocdkcnajiiaaGreat.Ints
/- Bernstein coefficients, plain law: degrees, the program's axes, one side's sign; no condition beyond stated ranges. -/
namespace Go.Proofs.YtagocdkcnajiiaaGreat
open Go.Ab Ints
set_option linter.unusedSimpArgs false
set_option linter.unusedVariables false
theorem degF_if (k : Int) : ∀ (p : List Tm) (m n : Int), degF k (if m > n then m else n) p = if m > degF k n p then m else degF k n p
 | [], m, n => rfl
 | t :: l, m, n => by
   rw [degF, degF]
   have e : (if (if m > n then m else n) > pw t k then (if m > n then m else n) else pw t k) = if m > (if n > pw t k then n else pw t k) then m else (if n > pw t k then n else pw t k) := by
     by_cases h1 : m > n <;> by_cases h2 : n > pw t k <;> by_cases h3 : m > pw t k <;> simp only [h1, h2, h3, if_true, if_false] <;> omega
   rw [e]
   exact degF_if k l m _
theorem degF_zero (k : Int) (p : List Tm) : (if (0 : Int) > degF k (-1) p then 0 else degF k (-1) p) = degF k 0 p := by
 rw [← degF_if]
 rfl
theorem degF_ge (k : Int) : ∀ (p : List Tm) (m : Int), m ≤ degF k m p
 | [], m => Int.le_refl _
 | t :: l, m => by
   rw [degF]
   have := degF_ge k l (if m > pw t k then m else pw t k)
   split at this <;> rename_i h
   · rw [if_pos h]; exact this
   · rw [if_neg h]; omega
theorem degF_mem (k : Int) : ∀ (p : List Tm) (m : Int) (t : Tm), t ∈ p → pw t k ≤ degF k m p
 | [], m, t, h => by simp at h
 | u :: l, m, t, h => by
   rw [degF]
   rcases List.mem_cons.1 h with rfl | h
   · have := degF_ge k l (if m > pw t k then m else pw t k)
     split at this <;> rename_i h
     · rw [if_pos h]; omega
     · rw [if_neg h]; exact this
   · exact degF_mem k l _ t h
theorem degF_le (k : Int) {B : Int} : ∀ (p : List Tm) (m : Int), m ≤ B → (∀ t ∈ p, pw t k ≤ B) → degF k m p ≤ B
 | [], m, h, _ => h
 | u :: l, m, h, hp => by
   rw [degF]
   refine degF_le k l _ ?_ fun t ht => hp t (by simp [ht])
   have := hp u (by simp)
   split <;> omega
theorem degA_ge : ∀ (p : List Tm) (m : Int), m ≤ degA m p
 | [], m => Int.le_refl _
 | t :: l, m => by
   rw [degA]
   have := degA_ge l (if m > t.x + t.y + t.z then m else t.x + t.y + t.z)
   split at this <;> rename_i h
   · rw [if_pos h]; exact this
   · rw [if_neg h]; omega
theorem degA_mem : ∀ (p : List Tm) (m : Int) (t : Tm), t ∈ p → t.x + t.y + t.z ≤ degA m p
 | [], m, t, h => by simp at h
 | u :: l, m, t, h => by
   rw [degA]
   rcases List.mem_cons.1 h with rfl | h
   · have := degA_ge l (if m > t.x + t.y + t.z then m else t.x + t.y + t.z)
     split at this <;> rename_i h
     · rw [if_pos h]; omega
     · rw [if_neg h]; exact this
   · exact degA_mem l _ t h
theorem degA_le {B : Int} : ∀ (p : List Tm) (m : Int), m ≤ B → (∀ t ∈ p, t.x + t.y + t.z ≤ B) → degA m p ≤ B
 | [], m, h, _ => h
 | u :: l, m, h, hp => by
   rw [degA]
   refine degA_le l _ ?_ fun t ht => hp t (by simp [ht])
   have := hp u (by simp)
   split <;> omega
theorem goodF_terms : ∀ (p : List Tm) (u : Option Tm), goodF u p = true → ∀ t ∈ p, okTm t = true
 | [], _, _, t, h => by simp at h
 | a :: l, u, h, t, ht => by
   simp only [goodF, Bool.and_eq_true] at h
   rcases List.mem_cons.1 ht with rfl | ht
   · exact h.1.1.1
   · exact goodF_terms l _ h.2 t ht
theorem goodP_ok {p : List Tm} (h : goodP p = true) : (∀ t ∈ p, okT4 (degA (-1) p) t ∧ 0 ≤ t.x ∧ t.x ≤ 4 ∧ 0 ≤ t.y ∧ t.y ≤ 4 ∧ 0 ≤ t.z ∧ t.z ≤ 4) ∧ degA (-1) p ≤ 4 ∧ p.length ≤ 20 := by
 simp only [goodP, Bool.and_eq_true, decide_eq_true_eq] at h
 have hb : ∀ t ∈ p, (-1000 ≤ t.c ∧ t.c ≤ 1000 ∧ 0 ≤ t.x ∧ t.x ≤ 4 ∧ 0 ≤ t.y ∧ t.y ≤ 4 ∧ 0 ≤ t.z ∧ t.z ≤ 4) ∧ t.x + t.y + t.z ≤ 4 := fun t ht => by
   have h1 := goodF_terms p none h.1 t ht
   refine ⟨okTm_b h1, ?_⟩
   simp only [okTm, Bool.and_eq_true, decide_eq_true_eq] at h1
   exact h1.2
 refine ⟨fun t ht => ?_, degA_le p _ (by omega) fun t ht => (hb t ht).2, by omega⟩
 have h1 := hb t ht
 have h2 := degA_mem p (-1) t ht
 exact ⟨⟨by omega, by omega, by omega, by omega, h2⟩, by omega, by omega, by omega, by omega, by omega, by omega⟩
def dgI (p : List Tm) (k : Nat) : Nat := (degF k 0 p).toNat
theorem dgI_int (p : List Tm) (k : Nat) : ((dgI p k : Nat) : Int) = degF k 0 p := by
 have := degF_ge k p 0
 unfold dgI
 omega
theorem dgI_le {p : List Tm} (h : ∀ t ∈ p, 0 ≤ t.x ∧ t.x ≤ 4 ∧ 0 ≤ t.y ∧ t.y ≤ 4 ∧ 0 ≤ t.z ∧ t.z ≤ 4) (k : Nat) : dgI p k ≤ 4 := by
 have h1 := degF_le (k : Int) (B := 4) p 0 (by decide) fun t ht => by
   have := h t ht
   unfold pw
   split
   · omega
   · split <;> omega
 have := dgI_int p k
 omega
def axI (p : List Tm) (L U : List Int) (k : Nat) : Ax := ⟨L.getD k 0, U.getD k 0, dgI p k⟩
theorem fromB_zero {n : Nat} {p : List Tm} (hn : 1 ≤ n) (h : fromB n p = true) (k : Nat) (hk : n ≤ k) (hk2 : k < 3) : degF k (-1) p ≤ 0 := by
 simp only [fromB, Bool.and_eq_true, Bool.or_eq_true, decide_eq_true_eq, Bool.not_eq_true', decide_eq_false_iff_not] at h
 have : k = 1 ∨ k = 2 := by omega
 rcases this with rfl | rfl
 · have h2 := h.1.2
   rw [show ((1 : Nat) : Int) = 1 from rfl]
   omega
 · have h2 := h.2
   rw [show ((2 : Nat) : Int) = 2 from rfl]
   omega
theorem fromB_dg {n : Nat} {p : List Tm} (hn : 1 ≤ n) (h : fromB n p = true) (k : Nat) (hk : n ≤ k) (hk2 : k < 3) : dgI p k = 0 ∧ ∀ t ∈ p, pw t k ≤ 0 := by
 have h1 := fromB_zero hn h k hk hk2
 refine ⟨?_, fun t ht => by have := degF_mem k p (-1) t ht; omega⟩
 have h2 := degF_zero k p
 have h3 := dgI_int p k
 rw [← h2] at h3
 split at h3 <;> omega
def terms3 (k : Nat) (p : List Tm) : List (Int × List Nat) := p.map (tmC k (degA (-1) p))
def sgn3A (k : Nat) (p : List Tm) (L U : List Int) : Int := sg ((placesL ([axI p L U 0, axI p L U 1, axI p L U 2].map (·.d))).map (coef (terms3 k p) [axI p L U 0, axI p L U 1, axI p L U 2]))
theorem nar_axS {p : List Tm} {L U : List Int} (hLU : ∀ k, L.getD k 0 ≤ U.getD k 0) (hlen : U.length = L.length) (k : Nat) : ∃ d : Nat, dgS p L U k = d ∧ (⟨L.getD k 0, U.getD k 0, d⟩ : Ax) = nar (axI p L U k) := by
 by_cases h : k < L.length ∧ U.getD k 0 > L.getD k 0
 · refine ⟨dgI p k, ?_, ?_⟩
   · rw [dgS, if_pos h, degF_zero, dgI_int]
   · unfold nar axI
     rw [if_neg (by simp only; omega)]
 · refine ⟨0, by rw [dgS, if_neg h]; rfl, ?_⟩
   have he : L.getD k 0 = U.getD k 0 := by
     by_cases hk : k < L.length
     · have := hLU k
       have h2 : ¬ U.getD k 0 > L.getD k 0 := fun e => h ⟨hk, e⟩
       omega
     · simp [show L.length ≤ k by omega, show U.length ≤ k by omega]
   unfold nar axI
   rw [if_pos he]
theorem sgn3A_nar {k : Nat} {p : List Tm} {L U : List Int} (hd : ∀ j, dgI p j ≤ 4) :
   sgn3A k p L U = sg ((placesL (([axI p L U 0, axI p L U 1, axI p L U 2].map nar).map (·.d))).map (coef (terms3 k p) ([axI p L U 0, axI p L U 1, axI p L U 2].map nar))) := by
 refine sg_nar (fun t ht => ?_) (fun a ha => ?_)
 · obtain ⟨u, _, rfl⟩ := List.mem_map.1 ht
   rfl
 · simp only [List.mem_cons, List.not_mem_nil, or_false] at ha
   rcases ha with rfl | rfl | rfl <;> exact hd _
def axN (p : List Tm) (L U : List Int) (n : Nat) : List Ax := (List.range n).map (axI p L U)
def termsN (n k : Nat) (p : List Tm) : List (Int × List Nat) := p.map fun t => ((tmC k (degA (-1) p) t).1, (tmC k (degA (-1) p) t).2.take n)
theorem bta_000 : bta 0 0 0 0 0 = 1 := by decide
theorem axI_none {n : Nat} {p : List Tm} {L U : List Int} (hn : 1 ≤ n) (hL : L.length = n) (hU : U.length = n) (h : fromB n p = true) (k : Nat) (hk : n ≤ k) (hk2 : k < 3) : axI p L U k = ⟨0, 0, 0⟩ := by
 unfold axI
 rw [(fromB_dg hn h k hk hk2).1]
 simp [show L.length ≤ k by omega, show U.length ≤ k by omega]
theorem places_N {n k : Nat} {p : List Tm} {L U : List Int} (hn : 1 ≤ n) (hn3 : n ≤ 3) (hL : L.length = n) (hU : U.length = n) (h : fromB n p = true) (hp : ∀ t ∈ p, 0 ≤ t.x ∧ t.x ≤ 4 ∧ 0 ≤ t.y ∧ t.y ≤ 4 ∧ 0 ≤ t.z ∧ t.z ≤ 4) :
   (placesL ([axI p L U 0, axI p L U 1, axI p L U 2].map (·.d))).map (coef (terms3 k p) [axI p L U 0, axI p L U 1, axI p L U 2]) = (placesL ((axN p L U n).map (·.d))).map (coef (termsN n k p) (axN p L U n)) := by
 have h3 : n = 1 ∨ n = 2 ∨ n = 3 := by omega
 rcases h3 with rfl | rfl | rfl
 · have e1 := axI_none hn hL hU h 1 (by omega) (by omega)
   have e2 := axI_none hn hL hU h 2 (by omega) (by omega)
   have z1 := (fromB_dg hn h 1 (by omega) (by omega)).2
   have z2 := (fromB_dg hn h 2 (by omega) (by omega)).2
   rw [e1, e2]
   show (placesL [dgI p 0, 0, 0]).map _ = (placesL [dgI p 0]).map _
   have ep : placesL [dgI p 0, 0, 0] = (placesL [dgI p 0]).map (· ++ [0, 0]) := by simp [placesL, List.map_flatMap]
   rw [ep, List.map_map]
   refine List.map_congr_left fun is his => ?_
   have hl := placesL_len _ _ his
   match is, hl with
   | [i], _ =>
     simp only [Function.comp, coef, terms3, termsN, lsum_map]
     refine lsum_congr fun t ht => ?_
     have hx := hp t ht
     have y0 : t.y.toNat = 0 := by have := z1 t ht; simp [pw] at this; omega
     have y1 : t.z.toNat = 0 := by have := z2 t ht; simp [pw] at this; omega
     simp only [tmC, y0, y1, List.cons_append, List.nil_append, prodB, bta_000, List.take_succ_cons, List.take_zero]
     simp [axN, prodB, List.range_succ]
 · have e2 := axI_none hn hL hU h 2 (by omega) (by omega)
   have z2 := (fromB_dg hn h 2 (by omega) (by omega)).2
   rw [e2]
   show (placesL [dgI p 0, dgI p 1, 0]).map _ = (placesL [dgI p 0, dgI p 1]).map _
   have ep : placesL [dgI p 0, dgI p 1, 0] = (placesL [dgI p 0, dgI p 1]).map (· ++ [0]) := by
     have := placesL_snoc [dgI p 0, dgI p 1] 0
     rw [show [dgI p 0, dgI p 1] ++ [0] = [dgI p 0, dgI p 1, 0] from rfl] at this
     rw [this, List.map_eq_flatMap]
     rfl
   rw [ep, List.map_map]
   refine List.map_congr_left fun is his => ?_
   have hl := placesL_len _ _ his
   match is, hl with
   | [i, j], _ =>
     simp only [Function.comp, coef, terms3, termsN, lsum_map]
     refine lsum_congr fun t ht => ?_
     have hx := hp t ht
     have y1 : t.z.toNat = 0 := by have := z2 t ht; simp [pw] at this; omega
     simp only [tmC, y1, List.cons_append, List.nil_append, prodB, bta_000, List.take_succ_cons, List.take_zero]
     simp [axN, prodB, List.range_succ]
 · show _ = (placesL [dgI p 0, dgI p 1, dgI p 2]).map _
   refine List.map_congr_left fun is his => ?_
   have hl := placesL_len _ _ his
   match is, hl with
   | [i, j, l], _ =>
     simp only [coef, terms3, termsN, lsum_map]
     refine lsum_congr fun t ht => ?_
     simp only [tmC, List.take_succ_cons, List.take_zero]
     simp [axN, prodB, List.range_succ]
theorem Ints.SlI.ext {H H' : AHeap} {v : Value} {l : List Int} (h : SlI H v l) (hx : Ext H H') : SlI H' v l := Sl.keep h (Keep.of_ext hx (Nat.le_refl _)) (Nat.le_refl _)
def SlKK (H : AHeap) (v : Value) (ss : List (List Int)) : Prop := ∃ vs : List Value, Sl H v ss.length 1 vs ∧ ∀ (i : Nat) (p : List Int), ss[i]? = some p → ∃ s, vs[i]? = some s ∧ SlI H s p
theorem SlKK.ext {H H' : AHeap} {v : Value} {ss : List (List Int)} (h : SlKK H v ss) (hx : Ext H H') : SlKK H' v ss := by
 obtain ⟨vs, h1, h2⟩ := h
 refine ⟨vs, h1.keep (Keep.of_ext hx (Nat.le_refl _)) (Nat.le_refl _), fun i p hp => ?_⟩
 obtain ⟨s, g1, g2⟩ := h2 i p hp
 exact ⟨s, g1, g2.ext hx⟩
theorem SlKK.lenV {H : AHeap} {v : Value} {ss : List (List Int)} (h : SlKK H v ss) : lenV v = some (.int .i64 ss.length) := by
 obtain ⟨vs, h1, _⟩ := h
 exact h1.lenV
theorem SlKK.at {H : AHeap} {v : Value} {ss : List (List Int)} (h : SlKK H v ss) {i : Nat} (hi : i < ss.length) : ∃ b o s, iadV 1 v (.int .i64 i) = some (.pointer (some ⟨b, o, none⟩)) ∧ H.cell b o = some s ∧ SlI H s ss[i] := by
 obtain ⟨vs, h1, h2⟩ := h
 obtain ⟨b, o, g1, g2, g3⟩ := h1.cell .i64 (i := (i : Int)) (by omega) (by omega)
 obtain ⟨s, k1, k2⟩ := h2 i _ (List.getElem?_eq_getElem hi)
 rw [show (i : Int).toNat = i by omega, k1] at g3
 exact ⟨b, o, s, g1, g3, k2⟩
theorem SlKK.nil (H : AHeap) : SlKK H (.slice none 0 0) [] := ⟨[], Sl.nil _ _, by intro i p h; simp at h⟩
structure OwnK (H : AHeap) (lo hi b : Nat) (vs : List Value) (bs : List Nat) (v : Value) (ss : List (List Int)) : Prop where
 vec : Vec H b v ss.length 1 vs
 len : bs.length = ss.length
 rng : lo ≤ b ∧ b < hi
 nodup : bs.Nodup
 nin : b ∉ bs
 rngs : ∀ c ∈ bs, lo ≤ c ∧ c < hi
 el : ∀ (i : Nat) (p : List Int), ss[i]? = some p → ∃ s c, vs[i]? = some s ∧ bs[i]? = some c ∧ VecI H c s p
def OwnKK (H : AHeap) (lo hi : Nat) (v : Value) (ss : List (List Int)) : Prop := (v = .slice none 0 0 ∧ ss = []) ∨ ∃ b vs bs, OwnK H lo hi b vs bs v ss
theorem OwnK.keep {H H' : AHeap} {lo hi b : Nat} {vs : List Value} {bs : List Nat} {v : Value} {ss : List (List Int)} (h : OwnK H lo hi b vs bs v ss) (hn : H.next ≤ H'.next) (hb : ∀ c, c < H.next → lo ≤ c → c < hi → H'.blk c = H.blk c) : OwnK H' lo hi b vs bs v ss := by
 obtain ⟨h1, h2, h3, h4, h5, h6, h7⟩ := h
 refine ⟨h1.keep hn (fun hlt => hb b hlt h3.1 h3.2), h2, h3, h4, h5, h6, fun i p hp => ?_⟩
 obtain ⟨s, c, g1, g2, g3⟩ := h7 i p hp
 obtain ⟨k1, k2⟩ := h6 c (List.mem_of_getElem? g2)
 exact ⟨s, c, g1, g2, Vec.keep g3 hn (fun hlt => hb c hlt k1 k2)⟩
theorem OwnKK.keep {H H' : AHeap} {lo hi : Nat} {v : Value} {ss : List (List Int)} (h : OwnKK H lo hi v ss) (hn : H.next ≤ H'.next) (hb : ∀ c, c < H.next → lo ≤ c → c < hi → H'.blk c = H.blk c) : OwnKK H' lo hi v ss := by
 rcases h with h | ⟨b, vs, bs, h⟩
 · exact .inl h
 · exact .inr ⟨b, vs, bs, h.keep hn hb⟩
theorem OwnKK.ext {H H' : AHeap} {lo hi : Nat} {v : Value} {ss : List (List Int)} (h : OwnKK H lo hi v ss) (hx : Ext H H') : OwnKK H' lo hi v ss := h.keep hx.next fun c hc _ _ => hx.blk c hc
theorem OwnKK.out {H H' : AHeap} {lo hi lo' hi' : Nat} {v : Value} {ss : List (List Int)} (h : OwnKK H lo hi v ss) (hx : Out lo' hi' H H') (hd : hi ≤ lo' ∨ hi' ≤ lo) : OwnKK H' lo hi v ss :=
 h.keep hx.next fun c hc h1 h2 => hx.blk c hc (by omega)
theorem OwnKK.slss {H : AHeap} {lo hi : Nat} {v : Value} {ss : List (List Int)} (h : OwnKK H lo hi v ss) : SlKK H v ss := by
 rcases h with ⟨rfl, rfl⟩ | ⟨b, vs, bs, h1, h2, h3, h4, h5, h6, h7⟩
 · exact SlKK.nil _
 · refine ⟨vs, h1.sl, fun i p hp => ?_⟩
   obtain ⟨s, c, g1, g2, g3⟩ := h7 i p hp
   exact ⟨s, g1, Vec.sl g3⟩
theorem OwnKK.wide {H : AHeap} {lo hi lo' hi' : Nat} {v : Value} {ss : List (List Int)} (h : OwnKK H lo hi v ss) (h1 : lo' ≤ lo) (h2 : hi ≤ hi') : OwnKK H lo' hi' v ss := by
 rcases h with h | ⟨b, vs, bs, g1, g2, g3, g4, g5, g6, g7⟩
 · exact .inl h
 · exact .inr ⟨b, vs, bs, g1, g2, by omega, g4, g5, fun c hc => by have := g6 c hc; omega, g7⟩
theorem OwnK.upd {H H' : AHeap} {lo hi b : Nat} {vs : List Value} {bs : List Nat} {v : Value} {ss : List (List Int)} (h : OwnK H lo hi b vs bs v ss) {i c : Nat} {s : Value} {p : List Int} (hlt : i < ss.length) (hs : vs[i]? = some s) (hc : bs[i]? = some c) (hx : Chg c H H') (hp : VecI H' c s p) :
   OwnK H' lo hi b vs bs v (ss.set i p) := by
 obtain ⟨h1, h2, h3, h4, h5, h6, h7⟩ := h
 have hcm := List.mem_of_getElem? hc
 refine ⟨by rw [List.length_set]; exact h1.chg hx (fun e => h5 (e ▸ hcm)), by rw [List.length_set]; exact h2, h3, h4, h5, h6, fun j q hq => ?_⟩
 by_cases hji : i = j
 · subst hji
   rw [List.getElem?_set_self hlt] at hq
   cases hq
   exact ⟨s, c, hs, hc, hp⟩
 · rw [List.getElem?_set_ne hji] at hq
   obtain ⟨s', c', g1, g2, g3⟩ := h7 j q hq
   refine ⟨s', c', g1, g2, Vec.chg g3 hx (fun e => ?_)⟩
   subst e
   obtain ⟨l1, e1⟩ := List.getElem?_eq_some_iff.1 hc
   obtain ⟨l2, e2⟩ := List.getElem?_eq_some_iff.1 g2
   exact hji ((List.getElem_inj h4).1 (e1.trans e2.symm))
structure GrowK (H : AHeap) (lo b : Nat) (vs : List Value) (bs : List Nat) (v : Value) (ss : List (List Int)) : Prop where
 vec : Vec H b v ss.length 1 vs
 len : bs.length = ss.length
 nil : ss = [] → v = .slice none 0 0
 low : lo ≤ b
 hi : ss ≠ [] → b < H.next
 nodup : bs.Nodup
 nin : b ∉ bs
 rngs : ∀ c ∈ bs, lo ≤ c ∧ c < H.next
 el : ∀ (i : Nat) (p : List Int), ss[i]? = some p → ∃ s c, vs[i]? = some s ∧ bs[i]? = some c ∧ VecI H c s p
theorem GrowK.nil' (H : AHeap) : GrowK H H.next H.next [] [] (.slice none 0 0) [] :=
 ⟨Vec.nil _ _ _, rfl, fun _ => rfl, Nat.le_refl _, fun h => absurd rfl h, List.nodup_nil, by simp, by simp, by intro i p h; simp at h⟩
theorem GrowK.own {H : AHeap} {lo b : Nat} {vs : List Value} {bs : List Nat} {v : Value} {ss : List (List Int)} (h : GrowK H lo b vs bs v ss) : OwnKK H lo H.next v ss := by
 by_cases hs : ss = []
 · exact .inl ⟨h.nil hs, hs⟩
 · exact .inr ⟨b, vs, bs, h.vec, h.len, ⟨h.low, h.hi hs⟩, h.nodup, h.nin, h.rngs, h.el⟩
theorem GrowK.push {lim : Nat} {H0 H H2 : AHeap} {lo b c : Nat} {vs : List Value} {bs : List Nat} {v s : Value} {ss : List (List Int)} {p : List Int} (h : GrowK H lo b vs bs v ss) (hlim : lim ≤ lo) (hx0 : Ext H0 H) (hlo : H0.next ≤ lo) (hloH : lo ≤ H.next) (hx : Ext H H2)
   (hc1 : H.next ≤ c) (hc2 : c ≤ H2.next) (hp : VecI H2 c s p) (hn : ss.length ≤ 1000000) :
   ∃ v' H3 b', appendH lim (H2.alloc [s]) 1 24 v (.slice (some ⟨H2.next, 0, some 0⟩) 1 1) = some (v', H3) ∧ GrowK H3 lo b' (vs ++ [s]) (bs ++ [c]) v' (ss ++ [p]) ∧ Ext H0 H3 := by
 obtain ⟨h1, h2, hnil, h3, h4, h5, h6, h7, h8⟩ := h
 have hnx := hx.next
 have hclen := h1.clen
 obtain ⟨b0, hv0, hb0, hbc, hbn, hbl⟩ : ∃ b0, Vec H2 b0 v ss.length 1 vs ∧ lo ≤ b0 ∧ b0 ≠ c ∧ b0 ∉ bs ∧ (b0 < H.next ∨ H2.next < b0) := by
   by_cases hs : ss = []
   · subst hs
     have hv := hnil rfl
     subst hv
     have hvs : vs = [] := List.length_eq_zero_iff.1 (by simpa using hclen)
     subst hvs
     refine ⟨H2.next + 1, Vec.nil _ _ _, by omega, by omega, fun hm => ?_, .inr (by omega)⟩
     have := h7 _ hm
     omega
   · have := h4 hs
     exact ⟨b, h1.ext hx, h3, by omega, h6, .inl this⟩
 obtain ⟨v', H3, b', g1, g2, g3, g4, g5, g6⟩ := push1 hv0 (lim := lim) s (by omega) (bytes := 24) (by omega)
 have hbl' : b' = b0 ∨ H2.next < b' := g3
 refine ⟨v', H3, b', g1, ⟨by rw [List.length_append]; exact g2, by simp [h2], by simp, by omega, fun _ => g4, ?_, ?_, ?_, ?_⟩, Chg.ext (hx0.trans hx) g5 (by omega)⟩
 · refine List.nodup_append.2 ⟨h5, by simp, ?_⟩
   intro x hx' y hy
   simp at hy
   subst hy
   have := h7 x hx'
   omega
 · intro hm
   rcases List.mem_append.1 hm with hm | hm
   · rcases hbl' with rfl | hbl'
     · exact hbn hm
     · have := h7 _ hm
       omega
   · simp at hm
     omega
 · intro c' hc'
   rcases List.mem_append.1 hc' with hm | hm
   · have := h7 _ hm
     omega
   · simp at hm
     omega
 · intro j q hq
   by_cases hj : j < ss.length
   · rw [List.getElem?_append_left hj] at hq
     obtain ⟨s', c', q1, q2, q3⟩ := h8 j q hq
     have hm := List.mem_of_getElem? q2
     refine ⟨s', c', by rw [List.getElem?_append_left (by omega)]; exact q1, by rw [List.getElem?_append_left (by omega)]; exact q2, Vec.chg (Vec.ext q3 hx) g5 (fun e => hbn (e ▸ hm))⟩
   · rw [List.getElem?_append_right (by omega)] at hq
     have hji : j = ss.length := by
       have := (List.getElem?_eq_some_iff.1 hq).1
       simp at this; omega
     subst hji
     simp at hq
     subst hq
     exact ⟨s, c, by rw [List.getElem?_append_right (by omega)]; simp [hclen], by rw [List.getElem?_append_right (by omega)]; simp [h2], Vec.chg hp g5 (fun e => hbc e.symm)⟩
def faceL (L U : List Int) (side : Nat) (up : Bool) : List Int := if up then L.set side (U.getD side 0) else L
def faceU (L U : List Int) (side : Nat) (up : Bool) : List Int := if up then U else U.set side (L.getD side 0)
structure Crs (k n : Nat) (L U : List Int) : Prop where
 hk : k ≤ 4
 n1 : 1 ≤ n
 n3 : n ≤ 3
 hL : L.length = n
 hU : U.length = n
 le : ∀ j, L.getD j 0 ≤ U.getD j 0
 bL : ∀ j, (L.getD j 0).natAbs ≤ 128
 bU : ∀ j, (U.getD j 0).natAbs ≤ 128
theorem Crs.face {k n : Nat} {L U : List Int} (h : Crs k n L U) {side : Nat} (hs : side < n) (up : Bool) : Crs k n (faceL L U side up) (faceU L U side up) := by
 obtain ⟨h1, h2, h3, h4, h5, h6, h7, h8⟩ := h
 cases up
 · refine ⟨h1, h2, h3, h4, by simp [faceU, h5], fun j => ?_, h7, fun j => ?_⟩
   · simp only [faceL, faceU, Bool.false_eq_true, if_false]
     rw [getD_set _ _ _ _ (by omega)]
     have := h6 j
     split
     · rename_i e; subst e; omega
     · exact this
   · simp only [faceU, Bool.false_eq_true, if_false]
     rw [getD_set _ _ _ _ (by omega)]
     split
     · exact h7 _
     · exact h8 _
 · refine ⟨h1, h2, h3, by simp [faceL, h4], h5, fun j => ?_, fun j => ?_, h8⟩
   · simp only [faceL, faceU, if_true]
     rw [getD_set _ _ _ _ (by omega)]
     have := h6 j
     split
     · rename_i e; subst e; omega
     · exact this
   · simp only [faceL, if_true]
     rw [getD_set _ _ _ _ (by omega)]
     split
     · exact h8 _
     · exact h7 _
theorem set_getD_self {l : List Int} {i : Nat} (h : i < l.length) : l.set i (l.getD i 0) = l := by
 rw [show l.getD i 0 = l[i] from by simp [h]]
 exact List.set_getElem_self h
theorem Crs.ax {k n : Nat} {L U : List Int} (h : Crs k n L U) (j d : Nat) (hd : d ≤ 4) : okAx ⟨L.getD j 0, U.getD j 0, d⟩ := by
 have := h.bL j
 have := h.bU j
 exact ⟨hd, by simpa using h.bL j, by simp only; omega⟩
theorem beListC_ok (lim : Nat) (s l h : Value) (p : List Tm) (L U : List Int) (k n : Nat) (H : AHeap) (hl : lim ≤ H.next) (hs : SlT H s p) (hL : SlI H l L) (hU : SlI H h U) (hc : Crs k n L U) (hp : goodP p = true) :
   ACalls Tryz.prog lim n_spec_beList [s, l, h, .int .i64 k] H fun v H' => ∃ (a dd : Value) (A : List Int), v = .tuple #[a, dd] ∧ A ≠ [] ∧ A.length ≤ 1000 ∧ sg A = sgn3A k p L U ∧ SlI H' a A ∧ Ext H H' := by
 obtain ⟨g1, g2, g3⟩ := goodP_ok hp
 have hb : ∀ t ∈ p, 0 ≤ t.x ∧ t.x ≤ 4 ∧ 0 ≤ t.y ∧ t.y ≤ 4 ∧ 0 ≤ t.z ∧ t.z ≤ 4 := fun t ht => (g1 t ht).2
 have hd := dgI_le hb
 have hlen : U.length = L.length := by rw [hc.hL, hc.hU]
 obtain ⟨d0, e0, x0⟩ := nar_axS (p := p) hc.le hlen 0
 obtain ⟨d1, e1, x1⟩ := nar_axS (p := p) hc.le hlen 1
 obtain ⟨d2, e2, x2⟩ := nar_axS (p := p) hc.le hlen 2
 have nd : ∀ j d, (⟨L.getD j 0, U.getD j 0, d⟩ : Ax) = nar (axI p L U j) → d ≤ 4 := by
   intro j d e
   have : d = (nar (axI p L U j)).d := by rw [← e]
   rw [this]
   unfold nar
   simp only
   split
   · omega
   · exact hd j
 refine (beListSign_ok lim s l h p L U k d0 d1 d2 H hl hs hL hU g3 (by rw [hc.hL]; exact hc.n3) hlen hc.hk (fun t ht => (g1 t ht).1) g2 e0 e1 e2 (hc.ax 0 d0 (nd _ _ x0)) (hc.ax 1 d1 (nd _ _ x1)) (hc.ax 2 d2 (nd _ _ x2))).mono ?_
 rintro _ H' ⟨a, dd, A, rfl, a1, a2, a3, a4, a5⟩
 refine ⟨a, dd, A, rfl, a1, a2, ?_, a4, a5⟩
 rw [a3, x0, x1, x2, sgn3A_nar hd]
 rfl
theorem miFace_ok (lim : Nat) (s v : Value) (p : List Tm) (L U : List Int) (k n side : Nat) (up : Bool) (H : AHeap) (hl : lim ≤ H.next) (hs : SlT H s p) (hv : BoxV H v k L U) (hc : Crs k n L U) (hp : goodP p = true) (hside : side < n) :
   ACalls Tryz.prog lim n_spec_miFace [s, v, .int .i64 side, .bool up] H fun v H' => v = .int .i64 (sgn3A k p (faceL L U side up) (faceU L U side up)) ∧ Ext H H' := by
 obtain ⟨ls, us, rfl, hls, hus⟩ := hv
 have hLn := hc.hL
 have hUn := hc.hU
 have hn3 := hc.n3
 refine is_spec_miFace.go rfl ?_
 unfold c_spec_miFace
 refine s_reg ?_
 simp only [o_pure, o_eff, o_nil, POp.ev, Opd.ev, EOp.ev, env0, gu, gv, setD, List.set, xms, xsj, xel, boxH, cellsV]
 have hx : Ext H (H.alloc [.int .i64 k, ls, us]) := Ext.alloc _ _
 have hls1 := SlI.ext hls hx
 have hus1 := SlI.ext hus hx
 have hbp : (H.alloc [.int .i64 k, ls, us]).blk H.next = some [.int .i64 k, ls, us] := alloc_new _ _
 have hbl : H.next < (H.alloc [.int .i64 k, ls, us]).next := Nat.lt_succ_self _
 generalize H.alloc [.int .i64 k, ls, us] = H1 at hx hls1 hus1 hbp hbl ⊢
 have hn1 := hx.next
 refine s_reg ?_
 simp only [o_pure, o_callN, POp.ev, Opd.ev, gv, setD, List.map, xsj, xel, load1V, fadV, xgz, xgs, Nat.zero_add, cell_blk hbp]
 refine (l1Own_ok _ ls L H1 (Nat.le_refl _) hls1 (by omega)).use ?_
 rintro lo H2 ⟨b, hb1, hb2, hlo, hx2⟩ _
 simp only [o_cont, o_callF, Opd.ev, gv, setD, List.map]
 refine (l1Own_ok lim us U H2 (by have := hx2.next; omega) (SlI.ext hus1 hx2) (by omega)).mono ?_
 rintro hi H3 ⟨c, hc1, hc2, hhi, hx3⟩
 have hn2 := hx2.next
 have hn3' := hx3.next
 have hlo3 := Vec.ext hlo hx3
 have hx03 := (hx.trans hx2).trans hx3
 simp only [o_cont, o_pure, o_nil, POp.ev, Opd.ev, gv, setD, List.set, xsj, xel]
 refine s_cut (fun e' H' => VecI H' b lo (faceL L U side up) ∧ VecI H' c hi U ∧ Ext H H' ∧ H1.next ≤ H'.next ∧ H'.blk H.next = some [.int .i64 k, ls, us] ∧ e' = [s, .agg #[.int .i64 k, ls, us], .int .i64 side, .bool up, .pointer (some ⟨H.next, 0, none⟩), .int .i64 0, lo, hi, undef]) ?_ ?_
 · refine s_test1 ?_
   simp only [o_pure, o_nil, POp.ev, Opd.ev, gv, setD, xsj, xel]
   have hbp3 : H3.blk H.next = some [.int .i64 k, ls, us] := by rw [hx3.blk _ (by omega), hx2.blk _ (by omega)]; exact hbp
   cases up
   · refine Test.false_ ?_
     refine s_skip1 ?_
     simp +decide only [pqn]
     exact ⟨hlo3, hhi, hx03, by omega, hbp3, trivial⟩
   · refine Test.true_ ?_
     obtain ⟨q1, q2⟩ := VecI.at hhi (i := side) (by omega)
     obtain ⟨w1, _⟩ := VecI.at hlo3 (i := side) (by omega)
     obtain ⟨cs, hst, hlo4⟩ := VecI.put (lim := lim) hlo3 (by omega) (i := side) (by omega) (U.getD side 0)
     have hch : Chg b H3 (H3.put b cs) := Chg.put _ _ _
     refine s_reg1 ?_
     simp only [o_pure, o_eff, o_nil, POp.ev, Opd.ev, EOp.ev, gv, setD, xsj, xel, load1V, q1, q2, w1, hst]
     simp +decide only [pqn]
     refine ⟨hlo4, Vec.chg hhi hch (by omega), Chg.ext hx03 hch (by omega), by have := hch.next; omega, ?_, trivial⟩
     rw [hch.blk _ (by omega) (by omega)]
     exact hbp3
 · rintro e' H4 ⟨g1, g2, g3, g4, g5, rfl⟩
   have hfc := hc.face hside up
   have hfl := hfc.hL
   obtain ⟨q1, q2⟩ := VecI.at g1 (i := side) (by omega)
   obtain ⟨w1, _⟩ := VecI.at g2 (i := side) (by omega)
   obtain ⟨cs, hst, g2'⟩ := VecI.put (lim := lim) g2 (by omega) (i := side) (by omega) ((faceL L U side up).getD side 0)
   have hch : Chg c H4 (H4.put c cs) := Chg.put _ _ _
   have eU : U.set side ((faceL L U side up).getD side 0) = faceU L U side up := by
     cases up
     · rfl
     · simp only [faceL, faceU, if_true]
       rw [getD_set _ _ _ _ (by omega), if_pos rfl]
       exact set_getD_self (by omega)
   rw [eU] at g2'
   refine s_reg ?_
   simp only [o_pure, o_eff, o_nil, POp.ev, Opd.ev, EOp.ev, gv, setD, xsj, xel, load1V, q1, q2, w1, hst]
   have g5' : (H4.put c cs).blk H.next = some [.int .i64 k, ls, us] := by rw [hch.blk _ (by omega) (by omega)]; exact g5
   have g3' := Chg.ext g3 hch (by omega)
   have g1' := Vec.chg g1 hch (by omega)
   have hn5 := g3'.next
   generalize H4.put c cs = H5 at g5' g3' g1' g2' hn5 ⊢
   refine s_reg ?_
   simp only [o_pure, o_callF, POp.ev, Opd.ev, gv, setD, List.map, xsj, xel, load1V, fadV, xgz, Nat.zero_add, cell_blk g5']
   refine (beListC_ok lim s lo hi p _ _ k n H5 (by omega) (hs.ext g3') (Vec.sl g1') (Vec.sl g2') hfc hp).mono ?_
   rintro _ H6 ⟨a, dd, A, rfl, a1, a2, a3, a4, hx6⟩
   simp only [o_cont, o_pure, o_nil, POp.ev, Opd.ev, gv, setD, List.set, xsj, xel, extV, List.getElem?_toArray, xgz, xgs]
   refine s_reg ?_
   simp only [o_pure, o_callF, POp.ev, Opd.ev, gv, setD, List.map, xsj, xel]
   refine (beSign_ok lim a A H6 a4 a1 (by omega)).eq ?_
   simp only [o_cont, o_pure, o_nil, POp.ev, Opd.ev, gv, setD, List.set, xsj, xel, a3]
   refine s_ret1 ?_
   simp +decide only [pfr, resV, resOne, gv, xsj, xel]
   exact ⟨trivial, g3'.trans hx6⟩
theorem sg_cases (l : List Int) : sg l = 1 ∨ sg l = -1 ∨ sg l = 0 := by
 unfold sg
 split
 · exact .inl rfl
 · split
   · exact .inr (.inl rfl)
   · exact .inr (.inr rfl)
def fcS (k : Nat) (p : List Tm) (L U : List Int) (side : Nat) (up : Bool) : Int := sgn3A k p (faceL L U side up) (faceU L U side up)
theorem fcS_cases (k : Nat) (p : List Tm) (L U : List Int) (side : Nat) (up : Bool) : fcS k p L U side up = 1 ∨ fcS k p L U side up = -1 ∨ fcS k p L U side up = 0 := sg_cases _
theorem fcS_wrap (k : Nat) (p : List Tm) (L U : List Int) (side : Nat) (a b : Bool) : IntKind.i64.wrap (fcS k p L U side a * fcS k p L U side b) = fcS k p L U side a * fcS k p L U side b := by
 rcases fcS_cases k p L U side a with h | h | h <;> rcases fcS_cases k p L U side b with h2 | h2 | h2 <;> rw [h, h2] <;> rfl
def oppB (k : Nat) (p : List Tm) (L U : List Int) (side : Nat) : Bool := decide (fcS k p L U side false * fcS k p L U side true < 0)
def passB (k : Nat) (ss : List (List Tm)) (L U : List Int) (order : List Int) : Bool := (List.range order.length).all fun side => oppB k (ss.getD (order.getD side 0).toNat []) L U side
theorem miOpposite_ok (lim : Nat) (s v : Value) (p : List Tm) (L U : List Int) (k n side : Nat) (H : AHeap) (hl : lim ≤ H.next) (hs : SlT H s p) (hv : BoxV H v k L U) (hc : Crs k n L U) (hp : goodP p = true) (hside : side < n) :
   ACalls Tryz.prog lim n_spec_miOpposite [s, v, .int .i64 side] H fun v H' => v = .bool (oppB k p L U side) ∧ Ext H H' := by
 obtain ⟨ls, us, rfl, hls, hus⟩ := hv
 refine is_spec_miOpposite.go rfl ?_
 unfold c_spec_miOpposite
 refine s_reg ?_
 simp only [o_pure, o_eff, o_nil, POp.ev, Opd.ev, EOp.ev, env0, gu, gv, setD, List.set, xms, xsj, xel, boxH, cellsV]
 have hx : Ext H (H.alloc [.int .i64 k, ls, us]) := Ext.alloc _ _
 have hls1 := SlI.ext hls hx
 have hus1 := SlI.ext hus hx
 have hbp : (H.alloc [.int .i64 k, ls, us]).blk H.next = some [.int .i64 k, ls, us] := alloc_new _ _
 generalize H.alloc [.int .i64 k, ls, us] = H1 at hx hls1 hus1 hbp ⊢
 have hn1 := hx.next
 refine s_reg ?_
 simp only [o_pure, o_callN, POp.ev, Opd.ev, gv, setD, List.map, xsj, xel, load3 hbp]
 refine (miFace_ok _ s _ p L U k n side false H1 (Nat.le_refl _) (hs.ext hx) ⟨_, _, rfl, hls1, hus1⟩ hc hp hside).use ?_
 rintro _ H2 ⟨rfl, hx2⟩ _
 have hn2 := hx2.next
 simp only [o_cont, o_callF, Opd.ev, gv, setD, List.map]
 refine (miFace_ok lim s _ p L U k n side true H2 (by omega) (hs.ext (hx.trans hx2)) ⟨_, _, rfl, SlI.ext hls1 hx2, SlI.ext hus1 hx2⟩ hc hp hside).mono ?_
 rintro _ H3 ⟨rfl, hx3⟩
 have hw := fcS_wrap k p L U side false true
 simp only [fcS] at hw
 simp only [o_cont, o_pure, o_nil, POp.ev, Opd.ev, gv, setD, List.set, xsj, xel, binV, ne_eq, xnt, if_false, hw]
 refine s_ret1 ?_
 simp +decide only [pfr, resV, resOne, gv, xsj, xel]
 exact ⟨rfl, (hx.trans hx2).trans hx3⟩
theorem miPasses_ok (lim : Nat) (s v o : Value) (ss : List (List Tm)) (L U order : List Int) (k n : Nat) (H : AHeap) (hl : lim ≤ H.next) (hs : SlSS H s ss) (hv : BoxV H v k L U) (ho : SlI H o order) (hc : Crs k n L U) (hp : ∀ p ∈ ss, goodP p = true) (hn : ss.length = n) (hon : order.length = n) (hin : ∀ x ∈ order, 0 ≤ x ∧ x ≤ (n : Int) - 1) :
   ACalls Tryz.prog lim n_spec_miPasses [s, v, o] H fun v H' => v = .bool (passB k ss L U order) ∧ Ext H H' := by
 obtain ⟨ls, us, rfl, hls, hus⟩ := hv
 have hn3 := hc.n3
 refine is_spec_miPasses.go rfl ?_
 unfold c_spec_miPasses
 refine s_reg ?_
 simp only [o_pure, o_eff, o_nil, POp.ev, Opd.ev, EOp.ev, env0, gu, gv, setD, List.set, xms, xsj, xel, boxH, cellsV]
 have hx : Ext H (H.alloc [.int .i64 k, ls, us]) := Ext.alloc _ _
 have hls1 := SlI.ext hls hx
 have hus1 := SlI.ext hus hx
 have ho1 := SlI.ext ho hx
 have hbp : (H.alloc [.int .i64 k, ls, us]).blk H.next = some [.int .i64 k, ls, us] := alloc_new _ _
 have hbl : H.next < (H.alloc [.int .i64 k, ls, us]).next := Nat.lt_succ_self _
 generalize H.alloc [.int .i64 k, ls, us] = H1 at hx hls1 hus1 ho1 hbp hbl ⊢
 have hn1 := hx.next
 refine s_assoc (s_reg ?_)
 simp only [o_pure, o_nil, POp.ev, Opd.ev, gv, setD, List.set, xsj, xel, ho1.lenV]
 refine s_block ?_
 refine s_loop1 (fun j e' H' => ∃ (i : Nat) (x5 x6 : Value), i + j = order.length ∧ passB k ss L U order = ((List.range order.length).drop i).all (fun side => oppB k (ss.getD (order.getD side 0).toNat []) L U side) ∧ Ext H1 H' ∧ e' = [s, .agg #[.int .i64 k, ls, us], o, .pointer (some ⟨H.next, 0, none⟩), .bool false, x5, x6, o, .int .i64 order.length, .int .i64 i]) order.length ⟨0, _, _, by omega, rfl, Ext.refl _, rfl⟩ ?_
 rintro j e' H2 ⟨i, x5, x6, hij, hall, hx2, rfl⟩
 have hn2 := hx2.next
 refine s_test ?_
 simp only [o_pure, o_nil, POp.ev, Opd.ev, gv, setD, xsj, xel, binV, ne_eq, xnt, if_false]
 refine Test.split (fun hlt => ?_) (fun hlt => ?_)
 · have hlt' : i < order.length := by simpa using hlt
   obtain ⟨b1, o1, u1, _, u2⟩ := SlI.get (SlI.ext ho1 hx2) hlt'
   have hg : order.getD i 0 = order[i] := by simp [hlt']
   obtain ⟨r1, r2⟩ := hin _ (List.getElem_mem hlt')
   obtain ⟨m, hm⟩ : ∃ m : Nat, order[i] = m := ⟨order[i].toNat, by omega⟩
   have hml : m < ss.length := by omega
   obtain ⟨b2, o2, s1, w1, w2, w3⟩ := (hs.ext (hx.trans hx2)).at hml
   rw [List.drop_eq_getElem_cons (by simpa using hlt'), List.all_cons, List.getElem_range, hg, hm, Int.toNat_natCast, show ss.getD m [] = ss[m] from by simp [hml]] at hall
   rw [hm] at u2
   have hbp2 : H2.blk H.next = some [.int .i64 k, ls, us] := by rw [hx2.blk _ hbl]; exact hbp
   refine s_skip1 ?_
   simp +decide only [pqn]
   refine s_block1 ?_
   refine s_reg ?_
   simp only [o_pure, o_nil, POp.ev, Opd.ev, gv, setD, List.set, xsj, xel, load1V, u1, u2]
   refine s_test1 ?_
   simp only [o_pure, o_callF, POp.ev, Opd.ev, gv, setD, List.map, xsj, xel, load1V, w1, w2, load3 hbp2]
   refine (miOpposite_ok lim s1 _ ss[m] L U k n i H2 (by omega) w3 ⟨_, _, rfl, SlI.ext hls1 hx2, SlI.ext hus1 hx2⟩ hc (hp _ (List.getElem_mem hml)) (by omega)).mono ?_
   rintro _ H3 ⟨rfl, hx3⟩
   simp only [o_cont, o_pure, o_nil, POp.ev, Opd.ev, gv, setD, xsj, xel, unV]
   refine Test.split (fun hb => ?_) (fun hb => ?_)
   · refine s_reg ?_
     simp only [o_pure, o_nil, POp.ev, Opd.ev, setD, List.set, xsj, xel]
     refine s_ret1 ?_
     simp +decide only [pqr, pbr, pfr, resV, resOne, gv, xsj, xel]
     simp only [Bool.not_eq_true'] at hb
     rw [hb, Bool.false_and] at hall
     rw [hall]
     exact ⟨rfl, (hx.trans hx2).trans hx3⟩
   · refine s_skip1 ?_
     simp +decide only [pqn, pbn]
     refine s_reg1 ?_
     simp only [o_pure, o_nil, POp.ev, Opd.ev, gv, setD, List.set, xsj, xel, binV, ne_eq, xnt, if_false, add1 (i := i) (by omega)]
     simp +decide only [pqn]
     simp only [Bool.not_eq_false'] at hb
     rw [hb, Bool.true_and] at hall
     exact Round.mk (j - 1) (by omega) ⟨i + 1, _, _, by omega, hall, hx2.trans hx3, rfl⟩
 · have hge : i = order.length := by simp at hlt; omega
   subst hge
   refine s_exit1 ?_
   simp +decide only [pqn, pqe, pbe, reduceIte]
   refine s_reg ?_
   simp only [o_pure, o_nil, POp.ev, Opd.ev, setD, List.set, xsj, xel]
   refine s_ret1 ?_
   simp +decide only [pfr, resV, resOne, gv, xsj, xel]
   rw [List.drop_of_length_le (by simp)] at hall
   rw [hall]
   exact ⟨rfl, hx.trans hx2⟩
def askB (ss : List (List Tm)) (k : Int) (L U : List Int) : Bool := goodSS ss && goodB k L U && decide (k ≤ 4) && ((ss.length : Int) == (L.length : Int))
theorem miAsked_ok (lim : Nat) (s v : Value) (ss : List (List Tm)) (k : Int) (L U : List Int) (H : AHeap) (hl : lim ≤ H.next) (hs : SlSS H s ss) (hv : BoxV H v k L U) (hn : ss.length ≤ 1000000) (hn2 : ∀ p ∈ ss, p.length ≤ 1000000) (hL : L.length ≤ 1000000) (hU : U.length ≤ 1000000) :
   ACalls Tryz.prog lim n_spec_miAsked [s, v] H fun v H' => v = .bool (askB ss k L U) ∧ Ext H H' := by
 obtain ⟨ls, us, rfl, hls, hus⟩ := hv
 refine is_spec_miAsked.go rfl ?_
 unfold c_spec_miAsked
 refine s_reg ?_
 simp only [o_pure, o_eff, o_nil, POp.ev, Opd.ev, EOp.ev, env0, gu, gv, setD, List.set, xms, xsj, xel, boxH, cellsV]
 have hx : Ext H (H.alloc [.int .i64 k, ls, us]) := Ext.alloc _ _
 have hls1 := SlI.ext hls hx
 have hus1 := SlI.ext hus hx
 have hbp : (H.alloc [.int .i64 k, ls, us]).blk H.next = some [.int .i64 k, ls, us] := alloc_new _ _
 have hbl : H.next < (H.alloc [.int .i64 k, ls, us]).next := Nat.lt_succ_self _
 generalize H.alloc [.int .i64 k, ls, us] = H1 at hx hls1 hus1 hbp hbl ⊢
 have hn1 := hx.next
 refine s_reg ?_
 simp only [o_pure, o_callF, POp.ev, Opd.ev, gv, setD, List.map, xsj, xel]
 refine (poSystem_ok lim s ss H1 (by omega) (hs.ext hx) hn hn2).mono ?_
 rintro _ H2 ⟨rfl, hx2⟩
 have hn2' := hx2.next
 have hbp2 : H2.blk H.next = some [.int .i64 k, ls, us] := by rw [hx2.blk _ hbl]; exact hbp
 unfold askB
 cases h1 : goodSS ss
 · simp only [o_cont, o_pure, o_guard, gk_ft, o_nil, POp.ev, Opd.ev, gv, setD, List.set, xsj, xel, pickV]
   refine s_ret1 ?_
   simp +decide only [pfr, resV, resOne, gv, xsj, xel]
   exact ⟨by simp, hx.trans hx2⟩
 simp only [o_cont, o_pure, o_callF, o_guard, gk_tt, POp.ev, Opd.ev, gv, setD, List.map, xsj, xel, load3 hbp2]
 refine (bxGood_ok lim _ k L U H2 (by omega) ⟨_, _, rfl, SlI.ext hls1 hx2, SlI.ext hus1 hx2⟩ (by omega) (by omega)).mono ?_
 rintro _ H3 ⟨rfl, hx3⟩
 have hbp3 : H3.blk H.next = some [.int .i64 k, ls, us] := by rw [hx3.blk _ (by omega)]; exact hbp2
 cases h2 : goodB k L U
 · simp only [o_cont, o_pure, o_guard, gk_ft, o_nil, POp.ev, Opd.ev, gv, setD, List.set, xsj, xel, pickV]
   refine s_ret1 ?_
   simp +decide only [pfr, resV, resOne, gv, xsj, xel]
   exact ⟨by simp, (hx.trans hx2).trans hx3⟩
 simp only [o_cont, o_pure, o_guard, gk_tt, POp.ev, Opd.ev, gv, setD, xsj, xel, pickV, binV, load1V, fadV, ne_eq, xnt, if_false, xgz, Nat.zero_add, cell_blk hbp3]
 cases h3 : decide (k ≤ 4)
 · simp only [o_pure, o_guard, gk_ft, o_nil, POp.ev, Opd.ev, gv, setD, List.set, xsj, xel, pickV]
   refine s_ret1 ?_
   simp +decide only [pfr, resV, resOne, gv, xsj, xel]
   exact ⟨by simp, (hx.trans hx2).trans hx3⟩
 simp only [o_pure, o_guard, gk_tt, o_nil, POp.ev, Opd.ev, gv, setD, List.set, xsj, xel, pickV, binV, load1V, fadV, ne_eq, xnt, if_false, xgz, xgs, Nat.zero_add, cell_blk hbp3, hs.lenV, hls.lenV]
 refine s_ret1 ?_
 simp +decide only [pfr, resV, resOne, gv, xsj, xel]
 exact ⟨by simp, (hx.trans hx2).trans hx3⟩
theorem rngB_get {m : Int} : ∀ {low high : List Int}, rngB m low high = true → high.length = low.length → 0 ≤ m → ∀ j, low.getD j 0 ≤ high.getD j 0 ∧ -m ≤ low.getD j 0 ∧ low.getD j 0 ≤ m ∧ -m ≤ high.getD j 0 ∧ high.getD j 0 ≤ m
 | [], high, _, hl, hm, j => by
   have : high = [] := List.length_eq_zero_iff.1 (by simpa using hl)
   subst this
   simp
   omega
 | x :: l, y :: h, hr, hl, hm, j => by
   simp only [rngB, Bool.and_eq_true, decide_eq_true_eq] at hr
   obtain ⟨⟨⟨⟨a1, a2⟩, a3, a4⟩, a5⟩, a6⟩ := hr
   cases j with
   | zero => simp; omega
   | succ j => simpa using rngB_get a6 (by simpa using hl) hm j
 | x :: l, [], _, hl, _, _ => by simp at hl
theorem askB_crs {ss : List (List Tm)} {k : Int} {L U : List Int} (h : askB ss k L U = true) : ∃ kn n : Nat, k = kn ∧ ss.length = n ∧ Crs kn n L U ∧ goodSS ss = true := by
 simp only [askB, Bool.and_eq_true, decide_eq_true_eq] at h
 obtain ⟨⟨⟨h1, h2⟩, h3⟩, h4⟩ := h
 have h4' : ss.length = L.length := by have := h4; simp at this; omega
 obtain ⟨g1, g2, g3, g4, g5, _, _⟩ := goodB_small h2
 simp only [goodB, Bool.and_eq_true, decide_eq_true_eq, Bool.not_eq_true', bne_eq_false_iff_eq] at h2
 have hr := h2.1.2
 obtain ⟨kn, rfl⟩ : ∃ kn : Nat, k = kn := ⟨k.toNat, by omega⟩
 rw [Int.toNat_natCast] at hr
 have hp := two_pow (n := kn) (m := 4) (by omega)
 have hR := rngB_get hr g5 (by omega)
 refine ⟨kn, ss.length, rfl, rfl, ⟨by omega, by omega, by omega, by omega, by omega, fun j => (hR j).1, fun j => ?_, fun j => ?_⟩, h1⟩
 · have := hR j; omega
 · have := hR j; omega
theorem sysF_pol (n : Nat) : ∀ {ss : List (List Tm)}, sysF n ss = true → ∀ p ∈ ss, goodP p = true ∧ fromB n p = true
 | [], _, p, h => by simp at h
 | a :: l, h, p, hp => by
   simp only [sysF, Bool.and_eq_true] at h
   rcases List.mem_cons.1 hp with rfl | hp
   · exact h.1
   · exact sysF_pol n h.2 p hp
theorem goodSS_pol {ss : List (List Tm)} (h : goodSS ss = true) : ∀ p ∈ ss, goodP p = true ∧ fromB ss.length p = true := by
 simp only [goodSS, Bool.and_eq_true] at h
 exact sysF_pol _ h.1
theorem iChoose_ok (lim n k : Nat) (H : AHeap) (hn : n ≤ 4) (hk : k ≤ 4) : ACalls Tryz.prog lim n_impl_choose [.int .i64 n, .int .i64 k] H fun v H' => v = .int .i64 (chs n k : Int) ∧ H' = H := by
 refine is_impl_choose.go rfl ?_
 unfold c_impl_choose
 refine s_reg ?_
 simp only [o_pure, o_nil, POp.ev, Opd.ev, env0, gu, setD, List.set, xsj, xel]
 refine s_reg ?_
 simp only [o_pure, o_nil, POp.ev, Opd.ev, setD, List.set, xsj, xel]
 refine s_assoc (s_reg ?_)
 simp only [o_pure, o_nil, POp.ev, Opd.ev, gv, setD, List.set, xsj, xel]
 refine s_block ?_
 have h0 : ((chs n 0 : Nat) : Int) = 1 := by cases n <;> rfl
 refine s_loop1 (fun j e' H' => ∃ (i : Nat) (x4 : Value), i + j = k ∧ H' = H ∧ e' = [.int .i64 n, .int .i64 k, .int .i64 0, .int .i64 (chs n i : Int), x4, .int .i64 k, .int .i64 i]) k ⟨0, _, by omega, rfl, by rw [h0]; rfl⟩ ?_
 rintro j e' H' ⟨i, x4, hij, rfl, rfl⟩
 refine s_test ?_
 simp only [o_pure, o_nil, POp.ev, Opd.ev, gv, setD, xsj, xel, binV, ne_eq, xnt, if_false]
 refine Test.split (fun hlt => ?_) (fun hlt => ?_)
 · have hlt' : i < k := by simpa using hlt
   have hne : ¬ ((i : Int) + 1 = 0) := by omega
   have e1 : IntKind.i64.wrap ((n : Int) - (i : Int)) = (n : Int) - (i : Int) := wr_id (by omega) (by omega)
   have e2 : IntKind.i64.wrap ((i : Int) + 1) = (i : Int) + 1 := wr_id (by omega) (by omega)
   have e3 := chs_step ⟨n, by omega⟩ ⟨i, by omega⟩
   simp only [wr] at e3
   refine s_skip1 ?_
   simp +decide only [pqn]
   refine s_block1 ?_
   refine s_reg ?_
   simp only [o_pure, o_nil, POp.ev, Opd.ev, gv, setD, List.set, xsj, xel]
   refine s_reg1 ?_
   simp only [o_pure, o_nil, POp.ev, Opd.ev, gv, setD, List.set, xsj, xel, binV, ne_eq, xnt, if_false, e1, e2, hne, e3]
   simp +decide only [pqn, pbn]
   refine s_reg1 ?_
   simp only [o_pure, o_nil, POp.ev, Opd.ev, gv, setD, List.set, xsj, xel, binV, ne_eq, xnt, if_false, add1 (i := i) (by omega)]
   simp +decide only [pqn]
   exact Round.mk (j - 1) (by omega) ⟨i + 1, _, by omega, rfl, rfl⟩
 · have hge : i = k := by simp at hlt; omega
   subst hge
   refine s_exit1 ?_
   simp +decide only [pqn, pqe, pbe, reduceIte]
   refine s_reg ?_
   simp only [o_pure, o_nil, POp.ev, Opd.ev, gv, setD, List.set, xsj, xel]
   refine s_ret1 ?_
   simp +decide only [pfr, resV, resOne, gv, xsj, xel]
theorem multiple_ok (lim d : Nat) (H : AHeap) (hd : d ≤ 4) : ACalls Tryz.prog lim n_impl_multiple [.int .i64 d] H fun v H' => v = .int .i64 (fac d : Int) ∧ H' = H := by
 refine is_impl_multiple.go rfl ?_
 unfold c_impl_multiple
 refine s_reg ?_
 simp only [o_pure, o_nil, POp.ev, Opd.ev, env0, gu, setD, List.set, xsj, xel]
 have hb : fillV [.int .i64 0, .int .i64 0, .int .i64 0, .int .i64 0, .int .i64 0] [(0, 1, .int .i64 1), (1, 1, .int .i64 1), (2, 1, .int .i64 2), (3, 1, .int .i64 3), (4, 1, .int .i64 12)] = some [.int .i64 1, .int .i64 1, .int .i64 2, .int .i64 3, .int .i64 12] := rfl
 have ha : aix1V 5 1 (.agg #[.int .i64 1, .int .i64 1, .int .i64 2, .int .i64 3, .int .i64 12]) (.int .i64 d) = some (.int .i64 (fac d : Int)) := by
   match d, hd with
   | 0, _ => rfl
   | 1, _ => rfl
   | 2, _ => rfl
   | 3, _ => rfl
   | 4, _ => rfl
 refine s_reg ?_
 simp only [o_pure, o_nil, POp.ev, Opd.ev, gv, setD, List.set, List.map, xms, xsj, xel, hb]
 simp only [xsj, xel, ha]
 refine s_ret1 ?_
 simp +decide only [pfr, resV, resOne, gv, xsj, xel]
theorem pw_ex (t : Tm) (u : Nat) : pw t (u : Int) = ex t u := by
 unfold pw ex
 match u with
 | 0 => rfl
 | 1 => rfl
 | u + 2 => rw [if_neg (by omega), if_neg (by omega), if_neg (by omega), if_neg (by omega)]
theorem degF_snoc (k : Int) (t : Tm) : ∀ (l : List Tm) (m : Int), degF k m (l ++ [t]) = if degF k m l > pw t k then degF k m l else pw t k
 | [], m => rfl
 | a :: l, m => by rw [List.cons_append, degF, degF_snoc k t l, degF]
theorem degA_snoc (t : Tm) : ∀ (l : List Tm) (m : Int), degA m (l ++ [t]) = if degA m l > t.x + t.y + t.z then degA m l else t.x + t.y + t.z
 | [], m => rfl
 | a :: l, m => by rw [List.cons_append, degA, degA_snoc t l, degA]
theorem max_eq (a b : Int) : (if b > a then b else a) = if a > b then a else b := by
 by_cases h : b > a
 · rw [if_pos h, if_neg (by omega)]
 · rw [if_neg h]
   by_cases h2 : a > b
   · rw [if_pos h2]
   · rw [if_neg h2]; omega
theorem degreeOf_ok (lim : Nat) (s : Value) (p : List Tm) (H : AHeap) (hl : lim ≤ H.next) (hs : SlT H s p) (hn : p.length ≤ 1000000000) (hp : ∀ t ∈ p, 0 ≤ t.x ∧ t.x ≤ 4 ∧ 0 ≤ t.y ∧ t.y ≤ 4 ∧ 0 ≤ t.z ∧ t.z ≤ 4) :
   ACalls Tryz.prog lim n_impl_degreeOf [s] H fun v H' => v = .int .i64 (degA (-1) p) ∧ Ext H H' := by
 refine is_impl_degreeOf.go rfl ?_
 unfold c_impl_degreeOf
 refine s_reg ?_
 simp only [o_pure, o_nil, POp.ev, Opd.ev, env0, gu, setD, List.set, xsj, xel]
 refine s_reg ?_
 simp only [o_pure, o_nil, POp.ev, Opd.ev, setD, List.set, xsj, xel]
 refine s_assoc (s_reg ?_)
 simp only [o_pure, o_nil, POp.ev, Opd.ev, gv, setD, List.set, xsj, xel, hs.lenV]
 refine s_block ?_
 refine s_loop1 (fun j e' H' => ∃ (i : Nat) (y : Value), i + j = p.length ∧ Ext H H' ∧ e' = [s, .int .i64 0, .int .i64 (degA (-1) (p.take i)), y, s, .int .i64 p.length, .int .i64 i]) p.length ⟨0, _, by omega, Ext.refl _, rfl⟩ ?_
 rintro j e' H' ⟨i, y, hik, hx, rfl⟩
 have hnx := hx.next
 refine s_test ?_
 simp only [o_pure, o_nil, POp.ev, Opd.ev, gv, setD, xsj, xel, binV, ne_eq, xnt, if_false]
 refine Test.split (fun hlt => ?_) (fun hlt => ?_)
 · have hlt' : i < p.length := by simpa using hlt
   obtain ⟨b1, o1, h1, hat⟩ := (hs.ext hx).at hlt'
   obtain ⟨q1, q2, q3, q4, q5, q6⟩ := hp _ (List.getElem_mem hlt')
   refine s_skip1 ?_
   simp +decide only [pqn]
   refine s_block ?_
   refine s_reg ?_
   simp only [o_pure, o_eff, o_nil, POp.ev, Opd.ev, EOp.ev, gv, setD, List.set, xsj, xel, h1, hat.all, store4_new (lim := lim) (H := H') (by omega)]
   have hB := BoxT.mk' H' p[i]
   generalize H'.alloc (tc p[i]) = H1 at hB ⊢
   generalize H'.next = q at hB hnx ⊢
   have hx1 := hx.trans hB.ext
   refine s_reg1 ?_
   simp only [o_pure, o_callF, POp.ev, Opd.ev, gv, setD, List.map, xsj, xel, hB.all]
   refine (degree_ok _ _ _ ⟨q1, q2⟩ ⟨q3, q4⟩ ⟨q5, q6⟩).mono ?_
   rintro _ H2 ⟨rfl, hx2⟩
   simp only [o_cont, o_pure, o_nil, POp.ev, Opd.ev, gv, setD, List.set, xsj, xel, max2V]
   simp +decide only [pqn, pbn]
   refine s_reg1 ?_
   simp only [o_pure, o_nil, POp.ev, Opd.ev, gv, setD, List.set, xsj, xel, binV, ne_eq, xnt, if_false, add1 (i := i) (by omega)]
   simp +decide only [pqn]
   refine Round.mk (j - 1) (by omega) ⟨i + 1, .pointer (some ⟨q, 0, none⟩), by omega, hx1.trans hx2, ?_⟩
   rw [List.take_succ_eq_append_getElem hlt', degA_snoc, max_eq]
 · have hge : i = p.length := by simp at hlt; omega
   subst hge
   refine s_exit1 ?_
   simp +decide only [pqn, pqe, pbe, reduceIte]
   refine s_reg ?_
   simp only [o_pure, o_nil, POp.ev, Opd.ev, gv, setD, List.set, xsj, xel]
   refine s_ret1 ?_
   simp +decide only [pfr, resV, resOne, gv, xsj, xel]
   rw [List.take_length]
   exact ⟨rfl, hx⟩
theorem aslc_to {q n : Nat} (h : n ≤ 3) : aslcV 3 1 (.pointer (some ⟨q, 0, none⟩)) none (some (.int .i64 n)) none = some (.slice (some ⟨q, 0, some 0⟩) n 3) := by
 match n, h with
 | 0, _ => rfl
 | 1, _ => rfl
 | 2, _ => rfl
 | 3, _ => rfl
theorem expV_agg (t : Tm) : expV t = .agg #[vi t.x, vi t.y, vi t.z] := rfl
theorem ex_cell {H : AHeap} {q : Nat} {t : Tm} (h : H.blk q = some [vi t.x, vi t.y, vi t.z]) {u : Nat} (hu : u < 3) : H.cell q (0 + u) = some (.int .i64 (ex t u)) := by
 rw [Nat.zero_add, cell_blk h]
 match u, hu with
 | 0, _ => rfl
 | 1, _ => rfl
 | 2, _ => rfl
theorem VecI.mk' (H : AHeap) (n : Nat) : VecI (H.alloc (List.replicate n (.int .i64 0))) H.next (.slice (some ⟨H.next, 0, some 0⟩) n n) (List.replicate n 0) := by
 show Vec _ _ _ (List.replicate n (0 : Int)).length 1 ((List.replicate n (0 : Int)).map vi)
 rw [List.length_replicate, List.map_replicate]
 exact Vec.lit (by simp)
theorem set_map_range {n u : Nat} (f g : Nat → Int) (hu : u < n) (h : ∀ k, k < n → k ≠ u → g k = f k) : ((List.range n).map f).set u (g u) = (List.range n).map g := by
 refine List.ext_getElem (by simp) fun k h1 h2 => ?_
 rw [List.getElem_set]
 simp only [List.getElem_map, List.getElem_range]
 simp only [List.length_set, List.length_map, List.length_range] at h1
 split
 · rename_i e; rw [e]
 · rename_i e; exact (h k h1 (fun e' => e e'.symm)).symm
theorem degreesOf_ok (lim : Nat) (s : Value) (p : List Tm) (n : Nat) (H : AHeap) (hl : lim ≤ H.next) (hs : SlT H s p) (hn : p.length ≤ 1000000000) (hn3 : n ≤ 3) :
   ACalls Tryz.prog lim n_impl_degreesOf [s, .int .i64 n] H fun v H' => ∃ b, H.next ≤ b ∧ b < H'.next ∧ VecI H' b v ((List.range n).map fun (k : Nat) => degF k 0 p) ∧ Ext H H' := by
 refine is_impl_degreesOf.go rfl ?_
 unfold c_impl_degreesOf
 refine s_reg ?_
 simp only [o_pure, o_nil, POp.ev, Opd.ev, env0, gu, setD, List.set, xsj, xel]
 have hmk := mkslice_int (H := H) 8 n n [.int .i64 0] (Nat.le_refl _) (by omega) (by omega)
 rw [zerosL_one] at hmk
 refine s_reg ?_
 simp only [o_pure, o_eff, o_nil, POp.ev, Opd.ev, EOp.ev, gv, setD, List.set, xsj, xel, hmk]
 have hv := VecI.mk' H n
 have hx := Ext.alloc H (List.replicate n (Value.int .i64 0))
 have hbl : H.next < (H.alloc (List.replicate n (Value.int .i64 0))).next := Nat.lt_succ_self _
 generalize H.alloc (List.replicate n (Value.int .i64 0)) = H1 at hv hx hbl ⊢
 generalize (Value.slice (some ⟨H.next, 0, some 0⟩) n n) = v at hv ⊢
 have e0 : List.replicate n (0 : Int) = (List.range n).map fun (k : Nat) => degF k 0 (p.take 0) := by
   refine List.ext_getElem (by simp) fun k h1 h2 => ?_
   simp [degF]
 rw [e0] at hv
 refine s_assoc (s_reg ?_)
 simp only [o_pure, o_nil, POp.ev, Opd.ev, gv, setD, List.set, xsj, xel, hs.lenV]
 refine s_block ?_
 refine s_loop1 (fun j e' H' => ∃ (i : Nat) (x4 x5 x6 x7 x11 x12 x13 : Value), i + j = p.length ∧ VecI H' H.next v ((List.range n).map fun (k : Nat) => degF k 0 (p.take i)) ∧ H.next < H'.next ∧ Ext H H' ∧ e' = [s, .int .i64 n, .slice none 0 0, v, x4, x5, x6, x7, s, .int .i64 p.length, .int .i64 i, x11, x12, x13]) p.length ⟨0, _, _, _, _, _, _, _, by omega, hv, hbl, hx, rfl⟩ ?_
 clear hv hx hbl
 rintro j e' H2 ⟨i, x4, x5, x6, x7, x11, x12, x13, hij, hv, hbl, hx, rfl⟩
 have hnx := hx.next
 refine s_test ?_
 simp only [o_pure, o_nil, POp.ev, Opd.ev, gv, setD, xsj, xel, binV, ne_eq, xnt, if_false]
 refine Test.split (fun hlt => ?_) (fun hlt => ?_)
 · have hlt' : i < p.length := by simpa using hlt
   obtain ⟨b1, o1, h1, hat⟩ := (hs.ext hx).at hlt'
   refine s_skip1 ?_
   simp +decide only [pqn]
   refine s_block1 ?_
   refine s_reg ?_
   simp only [o_pure, o_eff, o_nil, POp.ev, Opd.ev, EOp.ev, gv, setD, List.set, xsj, xel, h1, hat.all, store4_new (lim := lim) (H := H2) (by omega)]
   have hB := BoxT.mk' H2 p[i]
   generalize H2.alloc (tc p[i]) = H3 at hB ⊢
   generalize H2.next = q at hB hnx hbl ⊢
   have hxB := hB.ext
   have hnB := hxB.next
   have hlB := hB.lt
   refine s_reg ?_
   simp only [o_pure, o_callF, POp.ev, Opd.ev, gv, setD, List.map, xsj, xel, hB.all]
   refine (exponents_ok lim _ _ (by omega)).mono ?_
   rintro _ H4 ⟨rfl, hx4⟩
   have hn4 := hx4.next
   simp only [o_cont, o_eff, o_nil, Opd.ev, EOp.ev, gv, setD, List.set, xsj, xel, expV_agg, store3_new (lim := lim) (H := H4) (by omega)]
   have hq : (H4.alloc [vi p[i].x, vi p[i].y, vi p[i].z]).blk H4.next = some [vi p[i].x, vi p[i].y, vi p[i].z] := alloc_new _ _
   have hx5 := Ext.alloc H4 [vi p[i].x, vi p[i].y, vi p[i].z]
   have hlt5 : H4.next < (H4.alloc [vi p[i].x, vi p[i].y, vi p[i].z]).next := Nat.lt_succ_self _
   generalize H4.alloc [vi p[i].x, vi p[i].y, vi p[i].z] = H5 at hq hx5 hlt5 ⊢
   generalize H4.next = r at hq hlt5 hn4 ⊢
   have hxa := ((hxB.trans hx4).trans hx5)
   have hv5 := Vec.ext hv hxa
   have hxt := hx.trans hxa
   have hvs : (List.range n).map (fun (k : Nat) => degF k 0 (p.take i)) = (List.range n).map (fun (k : Nat) => if k < 0 then degF k 0 (p.take (i + 1)) else degF k 0 (p.take i)) := by simp
   refine s_reg ?_
   simp only [o_pure, o_nil, POp.ev, Opd.ev, gv, setD, List.set, Option.map_none, xms, xsj, xel, aslc_to hn3, lenV]
   refine s_block1 ?_
   refine s_loop1 (fun j e' H' => ∃ (u : Nat) (x6 x7 : Value), u + j = n ∧ VecI H' H.next v ((List.range n).map fun (k : Nat) => if k < u then degF k 0 (p.take (i + 1)) else degF k 0 (p.take i)) ∧ H.next < H'.next ∧ Ext H H' ∧ H'.blk r = some [vi p[i].x, vi p[i].y, vi p[i].z] ∧ r < H'.next ∧ e' = [s, .int .i64 n, .slice none 0 0, v, .pointer (some ⟨q, 0, none⟩), .pointer (some ⟨r, 0, none⟩), x6, x7, s, .int .i64 p.length, .int .i64 i, .slice (some ⟨r, 0, some 0⟩) n 3, .int .i64 n, .int .i64 u]) n ⟨0, _, _, by omega, by rw [← hvs]; exact hv5, by have := hxt.next; omega, hxt, hq, hlt5, rfl⟩ ?_
   clear hv5 hxt hq hlt5
   rintro j2 e' H6 ⟨u, x6, x7, huj, hv, hbl6, hx6, hq, hrl, rfl⟩
   refine s_test ?_
   simp only [o_pure, o_nil, POp.ev, Opd.ev, gv, setD, xsj, xel, binV, ne_eq, xnt, if_false]
   refine Test.split (fun hlt2 => ?_) (fun hlt2 => ?_)
   · have hu : u < n := by simpa using hlt2
     obtain ⟨w1, w2⟩ := VecI.at hv (i := u) (by simpa using hu)
     have hg : ((List.range n).map fun (k : Nat) => if k < u then degF k 0 (p.take (i + 1)) else degF k 0 (p.take i)).getD u 0 = degF u 0 (p.take i) := by simp [hu]
     rw [hg] at w2
     obtain ⟨cs, hst, hv'⟩ := VecI.put (lim := lim) hv hl (i := u) (by simpa using hu) (degF u 0 (p.take (i + 1)))
     have hmx : (if ex p[i] u > degF u 0 (p.take i) then ex p[i] u else degF u 0 (p.take i)) = degF u 0 (p.take (i + 1)) := by
       rw [List.take_succ_eq_append_getElem hlt', degF_snoc, max_eq, pw_ex]
     refine s_skip1 ?_
     simp +decide only [pqn]
     refine s_block1 ?_
     refine s_reg ?_
     simp only [o_pure, o_nil, POp.ev, Opd.ev, gv, setD, List.set, xsj, xel, load1V, iad_cell (i := u) .i64 hu, ex_cell hq (show u < 3 by omega)]
     refine s_reg1 ?_
     simp only [o_pure, o_eff, o_nil, POp.ev, Opd.ev, EOp.ev, gv, setD, xsj, xel, load1V, max2V, w1, w2, hmx, hst]
     simp +decide only [pqn, pbn]
     have hch : Chg H.next H6 (H6.put H.next cs) := Chg.put _ _ _
     refine s_reg1 ?_
     simp only [o_pure, o_nil, POp.ev, Opd.ev, gv, setD, List.set, xsj, xel, binV, ne_eq, xnt, if_false, add1 (i := u) (by omega)]
     simp +decide only [pqn]
     refine Round.mk (j2 - 1) (by omega) ⟨u + 1, _, _, by omega, ?_, hbl6, Chg.ext hx6 hch (Nat.le_refl _), ?_, hrl, rfl⟩
     · have es := set_map_range (n := n) (u := u) (fun (k : Nat) => if k < u then degF k 0 (p.take (i + 1)) else degF k 0 (p.take i)) (fun (k : Nat) => if k < u + 1 then degF k 0 (p.take (i + 1)) else degF k 0 (p.take i)) hu (fun k hk hne => by
         by_cases h : k < u
         · simp [h, show k < u + 1 by omega]
         · simp [h, show ¬ k < u + 1 by omega])
       simp only [show u < u + 1 by omega, if_true] at es
       rw [es] at hv'
       exact hv'
     · rw [put_ne _ _ (by omega)]
       exact hq
   · have hge : u = n := by simp at hlt2; omega
     subst hge
     refine s_exit1 ?_
     simp +decide only [pqn, pqe, pbn, pbe, reduceIte]
     refine s_reg1 ?_
     simp only [o_pure, o_nil, POp.ev, Opd.ev, gv, setD, List.set, xsj, xel, binV, ne_eq, xnt, if_false, add1 (i := i) (by omega)]
     simp +decide only [pqn]
     refine Round.mk (j - 1) (by omega) ⟨i + 1, _, _, _, _, _, _, _, by omega, ?_, hbl6, hx6, rfl⟩
     have es : (List.range u).map (fun (k : Nat) => if k < u then degF k 0 (p.take (i + 1)) else degF k 0 (p.take i)) = (List.range u).map fun (k : Nat) => degF k 0 (p.take (i + 1)) := List.map_congr_left fun k hk => by rw [if_pos (List.mem_range.1 hk)]
     rw [es] at hv
     exact hv
 · have hge : i = p.length := by simp at hlt; omega
   subst hge
   refine s_exit1 ?_
   simp +decide only [pqn, pqe, pbe, reduceIte]
   refine s_reg ?_
   simp only [o_pure, o_nil, POp.ev, Opd.ev, gv, setD, List.set, xsj, xel]
   refine s_ret1 ?_
   simp +decide only [pfr, resV, resOne, gv, xsj, xel]
   rw [List.take_length] at hv
   exact ⟨H.next, Nat.le_refl _, hbl, hv, hx⟩
def zl (l : List Nat) : List Int := l.map fun (n : Nat) => (n : Int)
theorem zl_length (l : List Nat) : (zl l).length = l.length := by simp [zl]
theorem zl_snoc (l : List Nat) (n : Nat) : zl (l ++ [n]) = zl l ++ [(n : Int)] := by simp [zl]
theorem sum_const {α : Type} (c : Nat) : ∀ l : List α, (l.map fun _ => c).sum = l.length * c
 | [] => by simp
 | a :: l => by rw [List.map_cons, List.sum_cons, sum_const c l, List.length_cons, Nat.succ_mul]; omega
theorem placesL_length : ∀ {ms : List Nat}, (∀ m ∈ ms, m ≤ 4) → (placesL ms).length ≤ 5 ^ ms.length
 | [], _ => by simp [placesL]
 | m :: ms, h => by
   have ih := placesL_length (ms := ms) fun x hx => h x (by simp [hx])
   have hm := h m (by simp)
   have e : (placesL (m :: ms)).length = (m + 1) * (placesL ms).length := by
     rw [placesL, List.length_flatMap]
     simp only [List.length_map]
     rw [sum_const, List.length_range]
   rw [e, List.length_cons, Nat.pow_succ, Nat.mul_comm]
   exact Nat.mul_le_mul ih (by omega)
def nxt (ll : List (List Nat)) (k : Nat) : List (List Int) := ll.flatMap fun l => (List.range (k + 1)).map fun n => zl (l ++ [n])
theorem nxt_length (ll : List (List Nat)) (k : Nat) : (nxt ll k).length = ll.length * (k + 1) := by
 unfold nxt
 rw [List.length_flatMap]
 simp only [List.length_map, List.length_range]
 rw [sum_const]
theorem nxt_snoc (ll : List (List Nat)) (l : List Nat) (k : Nat) : nxt (ll ++ [l]) k = nxt ll k ++ (List.range (k + 1)).map fun n => zl (l ++ [n]) := by
 simp [nxt]
theorem nxt_all (ms : List Nat) (k : Nat) : nxt (placesL ms) k = (placesL (ms ++ [k])).map zl := by
 rw [placesL_snoc, nxt, List.map_flatMap]
 congr 1
 funext l
 rw [List.map_map]
 rfl
theorem SlKK.atx {H : AHeap} {v : Value} {ss : List (List Int)} (h : SlKK H v ss) {i : Nat} (hi : i < ss.length) : ∃ b o s, iadV 1 v (.int .i64 i) = some (.pointer (some ⟨b, o, none⟩)) ∧ ∀ H', Ext H H' → H'.cell b o = some s ∧ SlI H' s ss[i] := by
 obtain ⟨vs, h1, h2⟩ := h
 obtain ⟨b, o, g1, g2, g3⟩ := h1.cell .i64 (i := (i : Int)) (by omega) (by omega)
 obtain ⟨s, k1, k2⟩ := h2 i _ (List.getElem?_eq_getElem hi)
 rw [show (i : Int).toNat = i by omega, k1] at g3
 refine ⟨b, o, s, g1, fun H' hx => ⟨?_, SlI.ext k2 hx⟩⟩
 rw [← g3]
 simp only [AHeap.cell, hx.blk _ g2]
theorem SlKK.one (H : AHeap) : SlKK (H.alloc [.slice none 0 0]) (.slice (some ⟨H.next, 0, some 0⟩) 1 1) [[]] := by
 refine ⟨[.slice none 0 0], Vec.sl (Vec.lit rfl), fun i p hp => ?_⟩
 match i, hp with
 | 0, hp =>
   simp at hp
   subst hp
   exact ⟨_, rfl, Sl.nil _ _⟩
theorem places_ok (lim : Nat) (s : Value) (ds : List Nat) (H : AHeap) (hl : lim ≤ H.next) (hs : SlI H s (zl ds)) (hd : ∀ m ∈ ds, m ≤ 4) (hn : ds.length ≤ 3) :
   ACalls Tryz.prog lim n_impl_places [s] H fun v H' => SlKK H' v ((placesL ds).map zl) ∧ Ext H H' := by
 refine is_impl_places.go rfl ?_
 unfold c_impl_places
 refine s_reg ?_
 simp only [o_pure, o_nil, POp.ev, Opd.ev, env0, gu, setD, List.set, xsj, xel]
 refine s_reg ?_
 simp only [o_pure, o_eff, o_nil, POp.ev, Opd.ev, EOp.ev, gv, setD, List.set, List.map, xsj, xel, bsliceV H (x := .slice none 0 0) (.slice none 0 0) rfl]
 have h0 := SlKK.one H
 have hx0 := Ext.alloc H [Value.slice none 0 0]
 generalize H.alloc [Value.slice none 0 0] = H1 at h0 hx0 ⊢
 generalize (Value.slice (some ⟨H.next, 0, some 0⟩) 1 1) = o1 at h0 ⊢
 have hsl := hs.lenV
 rw [zl_length] at hsl
 refine s_assoc (s_reg ?_)
 simp only [o_pure, o_nil, POp.ev, Opd.ev, gv, setD, List.set, xsj, xel, hsl]
 refine s_block ?_
 refine s_loop1 (fun j e' H' => ∃ (i : Nat) (out x3 x4 x5 x6 x10 x11 x12 x13 x14 : Value), i + j = ds.length ∧ SlKK H' out ((placesL (ds.take i)).map zl) ∧ Ext H H' ∧ e' = [s, .slice none 0 0, out, x3, x4, x5, x6, s, .int .i64 ds.length, .int .i64 i, x10, x11, x12, x13, x14]) ds.length ⟨0, o1, _, _, _, _, _, _, _, _, _, by omega, h0, hx0, rfl⟩ ?_
 clear h0 hx0
 rintro j e' H2 ⟨i, out, x3, x4, x5, x6, x10, x11, x12, x13, x14, hij, ho, hx, rfl⟩
 have hnx := hx.next
 refine s_test ?_
 simp only [o_pure, o_nil, POp.ev, Opd.ev, gv, setD, xsj, xel, binV, ne_eq, xnt, if_false]
 refine Test.split (fun hlt => ?_) (fun hlt => ?_)
 · have hlt' : i < ds.length := by simpa using hlt
   obtain ⟨b1, o1, u1, _, u2⟩ := SlI.get (SlI.ext hs hx) (i := i) (by rw [zl_length]; exact hlt')
   have hk : (zl ds)[i]'(by rw [zl_length]; exact hlt') = ((ds[i] : Nat) : Int) := by simp [zl]
   rw [hk] at u2
   have hk4 := hd _ (List.getElem_mem hlt')
   have htake := List.take_succ_eq_append_getElem hlt'
   have hpl : (placesL (ds.take i)).length ≤ 25 := by
     have h1 := placesL_length (ms := ds.take i) fun m hm => hd m (List.mem_of_mem_take hm)
     have h2 : (5 : Nat) ^ (ds.take i).length ≤ 5 ^ 2 := Nat.pow_le_pow_right (by decide) (by rw [List.length_take]; omega)
     omega
   generalize ds[i] = k at *
   have hol := ho.lenV
   rw [List.length_map] at hol
   have w1 : IntKind.i64.wrap ((k : Int) + 1) = ((k + 1 : Nat) : Int) := wr_nat (n := k + 1) (by omega)
   refine s_skip1 ?_
   simp +decide only [pqn]
   refine s_block1 ?_
   refine s_reg ?_
   simp only [o_pure, o_nil, POp.ev, Opd.ev, gv, setD, List.set, xsj, xel, load1V, u1, u2]
   refine s_reg ?_
   simp only [o_pure, o_nil, POp.ev, Opd.ev, setD, List.set, xsj, xel]
   refine s_assoc (s_reg ?_)
   simp only [o_pure, o_nil, POp.ev, Opd.ev, gv, setD, List.set, xsj, xel, hol]
   refine s_block ?_
   refine s_loop1 (fun j2 e' H' => ∃ (m b : Nat) (vs : List Value) (bs : List Nat) (nx x5 x6 x13 x14 : Value), m + j2 = (placesL (ds.take i)).length ∧ GrowK H' H2.next b vs bs nx (nxt ((placesL (ds.take i)).take m) k) ∧ Ext H2 H' ∧ e' = [s, .slice none 0 0, out, .int .i64 k, nx, x5, x6, s, .int .i64 ds.length, .int .i64 i, out, .int .i64 (placesL (ds.take i)).length, .int .i64 m, x13, x14]) (placesL (ds.take i)).length ⟨0, H2.next, [], [], .slice none 0 0, _, _, _, _, by omega, GrowK.nil' H2, Ext.refl _, rfl⟩ ?_
   rintro j2 e' H3 ⟨m, b, vs, bs, nx, x5, x6, x13, x14, hmj, hg, hx3, rfl⟩
   have hn3 := hx3.next
   refine s_test ?_
   simp only [o_pure, o_nil, POp.ev, Opd.ev, gv, setD, xsj, xel, binV, ne_eq, xnt, if_false]
   refine Test.split (fun hlt2 => ?_) (fun hlt2 => ?_)
   · have hml : m < (placesL (ds.take i)).length := by simpa using hlt2
     obtain ⟨b2, o2, ls, w2, w3⟩ := ho.atx (i := m) (by rw [List.length_map]; exact hml)
     simp only [List.getElem_map] at w3
     have hmt := List.take_succ_eq_append_getElem hml
     have hll := placesL_len _ _ (List.getElem_mem hml)
     have hll3 : (placesL (ds.take i))[m].length ≤ 3 := by rw [hll, List.length_take]; omega
     have hnl := nxt_length ((placesL (ds.take i)).take m) k
     rw [List.length_take, Nat.min_eq_left (by omega)] at hnl
     have hnl2 : m * (k + 1) ≤ 25 * 5 := Nat.mul_le_mul (by omega) (by omega)
     generalize (placesL (ds.take i))[m] = l at *
     refine s_skip1 ?_
     simp +decide only [pqn]
     refine s_block1 ?_
     refine s_reg ?_
     simp only [o_pure, o_nil, POp.ev, Opd.ev, gv, setD, List.set, xsj, xel, load1V, w2, (w3 _ hx3).1]
     refine s_reg ?_
     simp only [o_pure, o_nil, POp.ev, Opd.ev, gv, setD, List.set, xsj, xel, binV, ne_eq, xnt, if_false, w1]
     refine s_block1 ?_
     refine s_loop1 (fun j3 e' H' => ∃ (n b : Nat) (vs : List Value) (bs : List Nat) (nx x6 : Value), n + j3 = k + 1 ∧ GrowK H' H2.next b vs bs nx (nxt ((placesL (ds.take i)).take m) k ++ (List.range n).map fun n => zl (l ++ [n])) ∧ Ext H2 H' ∧ e' = [s, .slice none 0 0, out, .int .i64 k, nx, ls, x6, s, .int .i64 ds.length, .int .i64 i, out, .int .i64 (placesL (ds.take i)).length, .int .i64 m, .int .i64 (k + 1 : Nat), .int .i64 n]) (k + 1) ⟨0, b, vs, bs, nx, _, by omega, by simpa using hg, hx3, rfl⟩ ?_
     clear hg
     rintro j3 e' H4 ⟨n, b, vs, bs, nx, x6, hnj, hg, hx4, rfl⟩
     have hn4 := hx4.next
     refine s_test ?_
     simp only [o_pure, o_nil, POp.ev, Opd.ev, gv, setD, xsj, xel, binV, ne_eq, xnt, if_false]
     refine Test.split (fun hlt3 => ?_) (fun hlt3 => ?_)
     · have hnk : n < k + 1 := by simp at hlt3; omega
       have hlen : (nxt ((placesL (ds.take i)).take m) k ++ (List.range n).map fun n => zl (l ++ [n])).length ≤ 1000 := by
         rw [List.length_append, List.length_map, List.length_range, hnl]
         omega
       refine s_skip1 ?_
       simp +decide only [pqn]
       refine s_block1 ?_
       refine s_reg ?_
       simp only [o_pure, o_nil, POp.ev, Opd.ev, gv, setD, List.set, xsj, xel]
       refine s_reg1 ?_
       simp only [o_pure, o_callF, POp.ev, Opd.ev, gv, setD, List.map, xsj, xel]
       refine (Ints.clone_ok lim ls (zl l) H4 (by omega) (w3 _ hx4).2 (by rw [zl_length]; omega)).mono ?_
       rintro cl H5 ⟨c, hc1, hc2, hcl, hx5⟩
       have hn5 := hx5.next
       obtain ⟨v6, H6, c6, e6, hv6, hc6, hlt6, ch6, n6⟩ := push1 (lim := lim) (bytes := 8) hcl (.int .i64 (n : Int)) (by omega) (by rw [zl_length]; omega)
       have hx6 := Chg.ext hx5 ch6 hc1
       have hn6 := hx6.next
       have hv6' : VecI H6 c6 v6 (zl (l ++ [n])) := by
         rw [zl_snoc]
         exact VecI.snoc hv6
       obtain ⟨v7, H7, b7, e7, hg7, hx7⟩ := GrowK.push (lim := lim) hg (by omega) hx4 (Nat.le_refl _) hn4 hx6 (by rcases hc6 with h | h <;> omega) (by omega) hv6' (by omega)
       simp only [o_cont, o_pure, o_eff, o_nil, POp.ev, Opd.ev, EOp.ev, gv, setD, List.set, List.map, xsj, xel, bsliceV _ (.int .i64 0) (x := .int .i64 (n : Int)) rfl, e6, bsliceV _ (.slice none 0 0) (x := v6) (Vec.cellsV hv6'), e7]
       simp +decide only [pqn, pbn]
       refine s_reg1 ?_
       simp only [o_pure, o_nil, POp.ev, Opd.ev, gv, setD, List.set, xsj, xel, binV, ne_eq, xnt, if_false, add1 (i := n) (by omega)]
       simp +decide only [pqn]
       refine Round.mk (j3 - 1) (by omega) ⟨n + 1, b7, vs ++ [v6], bs ++ [c6], v7, .int .i64 n, by omega, ?_, hx7, rfl⟩
       rw [List.range_succ, List.map_append, ← List.append_assoc]
       exact hg7
     · have hge : n = k + 1 := by simp at hlt3; omega
       subst hge
       refine s_exit1 ?_
       simp +decide only [pqn, pqe, pbn, pbe, reduceIte]
       refine s_reg1 ?_
       simp only [o_pure, o_nil, POp.ev, Opd.ev, gv, setD, List.set, xsj, xel, binV, ne_eq, xnt, if_false, add1 (i := m) (by omega)]
       simp +decide only [pqn]
       refine Round.mk (j2 - 1) (by omega) ⟨m + 1, b, vs, bs, nx, _, _, _, _, by omega, ?_, hx4, rfl⟩
       rw [hmt, nxt_snoc]
       exact hg
   · have hge : m = (placesL (ds.take i)).length := by simp at hlt2; omega
     subst hge
     refine s_exit1 ?_
     simp +decide only [pqn, pqe, pbe, reduceIte]
     refine s_reg1 ?_
     simp only [o_pure, o_nil, POp.ev, Opd.ev, gv, setD, List.set, xsj, xel]
     simp +decide only [pqn, pbn]
     refine s_reg1 ?_
     simp only [o_pure, o_nil, POp.ev, Opd.ev, gv, setD, List.set, xsj, xel, binV, ne_eq, xnt, if_false, add1 (i := i) (by omega)]
     simp +decide only [pqn]
     refine Round.mk (j - 1) (by omega) ⟨i + 1, nx, _, _, _, _, _, _, _, _, _, by omega, ?_, hx.trans hx3, rfl⟩
     rw [htake, ← nxt_all]
     rw [List.take_length] at hg
     exact hg.own.slss
 · have hge : i = ds.length := by simp at hlt; omega
   subst hge
   refine s_exit1 ?_
   simp +decide only [pqn, pqe, pbe, reduceIte]
   refine s_reg ?_
   simp only [o_pure, o_nil, POp.ev, Opd.ev, gv, setD, List.set, xsj, xel]
   refine s_ret1 ?_
   simp +decide only [pfr, resV, resOne, gv, xsj, xel]
   rw [List.take_length] at ho
   exact ⟨ho, hx⟩
end Go.Proofs.YtagocdkcnajiiaaGreat
