/- The box laws, part 4 of their walk: the specification's mirrored box; no condition beyond stated lengths. -/
import Derived.Test.YtfnjjkljpegoeaaK7
namespace Go.Proofs.Ytfnjjkljpegoeaa
open Go.Ab
set_option linter.unusedSimpArgs false
set_option linter.unusedVariables false

theorem BoxR.low {lo lo' : Nat} {H : AHeap} {v : Value} {ok : Bool} {k : Int} {low high : List Int} (h : BoxR lo H v ok k low high) (hl : lo' ≤ lo) : BoxR lo' H v ok k low high := by
  rcases h with h | ⟨h0, s, t, b, c, h1, h2, h3, h4⟩
  · exact .inl h
  · exact .inr ⟨h0, s, t, b, c, h1, by omega, by omega, h4⟩
theorem BoxR.put {lo r : Nat} {H : AHeap} {v : Value} {ok : Bool} {k : Int} {low high : List Int} (h : BoxR lo H v ok k low high) (hr : r < lo) (cs : List Value) : BoxR lo (H.put r cs) v ok k low high := by
  rcases h with h | ⟨h0, s, t, b, c, h1, h2, h3, h4, h5, h6⟩
  · exact .inl h
  · exact .inr ⟨h0, s, t, b, c, h1, h2, h3, h4, h5.chg (Chg.put r H cs) (by omega), h6.chg (Chg.put r H cs) (by omega)⟩
theorem BoxR.form {lo : Nat} {H : AHeap} {v : Value} {ok : Bool} {k : Int} {low high : List Int} (h : BoxR lo H v ok k low high) : ∃ x y z, v = .tuple #[.agg #[x, y, z], .bool ok] := by
  rcases h with ⟨rfl, rfl⟩ | ⟨rfl, s, t, b, c, rfl, _⟩ <;> exact ⟨_, _, _, rfl⟩

def inS (side : Int) (low : List Int) : Bool := decide (0 ≤ side) && decide (side ≤ (low.length : Int) - 1)
theorem bxSide_ok (lim : Nat) (v : Value) (k side : Int) (low high : List Int) (H : AHeap) (hl : lim ≤ H.next) (hv : BoxV H v k low high) (hn : low.length ≤ 1000000000) (hn2 : high.length ≤ 1000000000) :
    ACalls Try.prog lim n_spec_bxSide [v, .int .i64 side] H fun v H' => v = .bool (goodB k low high && inS side low) ∧ Ext H H' := by
  have hv0 := hv
  obtain ⟨s, t, rfl, hs, ht⟩ := hv
  refine is_spec_bxSide.go rfl ?_
  unfold c_spec_bxSide
  refine s_reg ?_
  simp only [o_cont, o_callT, callV_fn, o_pure, o_eff, o_callF, o_callN, o_guard, gk_tt, gk_ff, gk_tf, gk_ft, gk_u, t_op, t_alt, t_nil, o_nil, POp.ev, Opd.ev, EOp.ev, env0, gu, gv, setD, resV, List.set, List.map, List.map_nil, List.map_cons, Option.map_none, Option.map_some, Option.some.injEq, exists_eq_left', pickV, binV, convV, load1V, max2V, min2V, nilchkV, unV, boolEq, isNilV, fadV, extV, slenV, ne_eq, not_true_eq_false, if_false, if_true, ite_true, ite_false, Bool.false_eq_true, Bool.true_eq_false, beq_true, beq_false, beq_self_eq_true, Bool.not_true, Bool.not_false, reduceCtorEq, List.getElem?_toArray, List.getElem?_cons_zero, List.getElem?_cons_succ, boxH, cellsV]
  have hx : Ext H (H.alloc [.int .i64 k, s, t]) := Ext.alloc _ _
  have hv1 := hv0.keep hx
  have hb : (H.alloc [.int .i64 k, s, t]).blk H.next = some [.int .i64 k, s, t] := alloc_new _ _
  have hn1 := hx.next
  have hs' := hs.keep (Keep.of_ext hx (Nat.le_refl _)) (Nat.le_refl _)
  have hlt : H.next < (H.alloc [.int .i64 k, s, t]).next := Nat.lt_succ_self _
  generalize H.alloc [.int .i64 k, s, t] = H1 at hx hv1 hb hn1 hs' hlt ⊢
  have hsub : IntKind.i64.wrap ((low.length : Int) - 1) = (low.length : Int) - 1 := by rw [IntKind.wrap_i64]; omega
  refine s_reg ?_
  simp only [o_cont, o_callT, callV_fn, o_pure, o_eff, o_callF, o_callN, o_guard, gk_tt, gk_ff, gk_tf, gk_ft, gk_u, t_op, t_alt, t_nil, o_nil, POp.ev, Opd.ev, EOp.ev, env0, gu, gv, setD, resV, List.set, List.map, List.map_nil, List.map_cons, Option.map_none, Option.map_some, Option.some.injEq, exists_eq_left', pickV, binV, convV, load1V, max2V, min2V, nilchkV, unV, boolEq, isNilV, fadV, extV, slenV, ne_eq, not_true_eq_false, if_false, if_true, ite_true, ite_false, Bool.false_eq_true, Bool.true_eq_false, beq_true, beq_false, beq_self_eq_true, Bool.not_true, Bool.not_false, reduceCtorEq, List.getElem?_toArray, List.getElem?_cons_zero, List.getElem?_cons_succ, load3 hb]
  refine (bxGood_ok lim _ _ _ _ _ (by omega) hv1 hn hn2).mono ?_
  rintro v H2 ⟨rfl, hx2⟩
  have hb2 : H2.blk H.next = some [.int .i64 k, s, t] := by rw [hx2.blk _ hlt]; exact hb
  cases hg : goodB k low high
  · simp only [o_cont, o_callT, callV_fn, o_pure, o_eff, o_callF, o_callN, o_guard, gk_tt, gk_ff, gk_tf, gk_ft, gk_u, t_op, t_alt, t_nil, o_nil, POp.ev, Opd.ev, EOp.ev, env0, gu, gv, setD, resV, List.set, List.map, List.map_nil, List.map_cons, Option.map_none, Option.map_some, Option.some.injEq, exists_eq_left', pickV, binV, convV, load1V, max2V, min2V, nilchkV, unV, boolEq, isNilV, fadV, extV, slenV, ne_eq, not_true_eq_false, if_false, if_true, ite_true, ite_false, Bool.false_eq_true, Bool.true_eq_false, beq_true, beq_false, beq_self_eq_true, Bool.not_true, Bool.not_false, reduceCtorEq, List.getElem?_toArray, List.getElem?_cons_zero, List.getElem?_cons_succ]
    refine s_ret1 ?_
    simp +decide only [p_seq_normal, p_seq_ret, p_seq_exit, p_block_normal, p_block_ret, p_block_exit, p_fin_ret, p_fin_normal, reduceIte, Nat.reduceEqDiff, resV, resOne, resL, gv, Option.some.injEq, exists_eq_left', Option.bind_some, Option.map_some, List.getD_cons_zero, List.getD_cons_succ]
    exact ⟨rfl, hx.trans hx2⟩
  · simp only [o_cont, o_callT, callV_fn, o_pure, o_eff, o_callF, o_callN, o_guard, gk_tt, gk_ff, gk_tf, gk_ft, gk_u, t_op, t_alt, t_nil, o_nil, POp.ev, Opd.ev, EOp.ev, env0, gu, gv, setD, resV, List.set, List.map, List.map_nil, List.map_cons, Option.map_none, Option.map_some, Option.some.injEq, exists_eq_left', pickV, binV, convV, load1V, max2V, min2V, nilchkV, unV, boolEq, isNilV, fadV, extV, slenV, ne_eq, not_true_eq_false, if_false, if_true, ite_true, ite_false, Bool.false_eq_true, Bool.true_eq_false, beq_true, beq_false, beq_self_eq_true, Bool.not_true, Bool.not_false, reduceCtorEq, List.getElem?_toArray, List.getElem?_cons_zero, List.getElem?_cons_succ, cell_blk hb2, Nat.zero_add, hs'.lenV, hsub]
    refine (l1In_ok _ _ _ _ _).eq ?_
    simp only [o_cont, o_callT, callV_fn, o_pure, o_eff, o_callF, o_callN, o_guard, gk_tt, gk_ff, gk_tf, gk_ft, gk_u, t_op, t_alt, t_nil, o_nil, POp.ev, Opd.ev, EOp.ev, env0, gu, gv, setD, resV, List.set, List.map, List.map_nil, List.map_cons, Option.map_none, Option.map_some, Option.some.injEq, exists_eq_left', pickV, binV, convV, load1V, max2V, min2V, nilchkV, unV, boolEq, isNilV, fadV, extV, slenV, ne_eq, not_true_eq_false, if_false, if_true, ite_true, ite_false, Bool.false_eq_true, Bool.true_eq_false, beq_true, beq_false, beq_self_eq_true, Bool.not_true, Bool.not_false, reduceCtorEq, List.getElem?_toArray, List.getElem?_cons_zero, List.getElem?_cons_succ]
    refine s_ret1 ?_
    simp +decide only [p_seq_normal, p_seq_ret, p_seq_exit, p_block_normal, p_block_ret, p_block_exit, p_fin_ret, p_fin_normal, reduceIte, Nat.reduceEqDiff, resV, resOne, resL, gv, Option.some.injEq, exists_eq_left', Option.bind_some, Option.map_some, List.getD_cons_zero, List.getD_cons_succ]
    exact ⟨rfl, hx.trans hx2⟩

def mirB (k side : Int) (low high : List Int) : Bool × Nat × List Int × List Int :=
  if goodB k low high && inS side low then makeB k.toNat (low.set side.toNat (-(high.getD side.toNat 0))) (high.set side.toNat (-(low.getD side.toNat 0))) else (false, 0, [], [])
theorem goodB_small {k : Int} {low high : List Int} (h : goodB k low high = true) : 0 ≤ k ∧ k ≤ 8 ∧ 1 ≤ low.length ∧ low.length ≤ 3 ∧ high.length = low.length ∧ (∀ x ∈ low, -2048 ≤ x ∧ x ≤ 2048) ∧ (∀ x ∈ high, -2048 ≤ x ∧ x ≤ 2048) := by
  simp only [goodB, Bool.and_eq_true, decide_eq_true_eq, Bool.not_eq_true', bne_eq_false_iff_eq] at h
  obtain ⟨⟨⟨⟨⟨h1, h2⟩, h3, h4⟩, h5⟩, h6⟩, _⟩ := h
  have hp := two_pow (n := k.toNat) (m := 8) (by omega)
  have key : ∀ (m : Int) (low high : List Int), m ≤ 2048 → high.length = low.length → rngB m low high = true → (∀ x ∈ low, -2048 ≤ x ∧ x ≤ 2048) ∧ (∀ x ∈ high, -2048 ≤ x ∧ x ≤ 2048) := by
    intro m low
    induction low with
    | nil =>
      intro high _ hl _
      have : high = [] := List.length_eq_zero_iff.1 (by simpa using hl)
      subst this
      simp
    | cons x l ih =>
      intro high hm hl hr
      match high, hl with
      | y :: h, hl =>
        simp only [rngB, Bool.and_eq_true, decide_eq_true_eq] at hr
        obtain ⟨⟨⟨⟨a1, a2⟩, a3, a4⟩, a5⟩, a6⟩ := hr
        obtain ⟨i1, i2⟩ := ih h hm (by simpa using hl) a6
        exact ⟨by intro z hz; rcases List.mem_cons.1 hz with rfl | hz; omega; exact i1 z hz, by intro z hz; rcases List.mem_cons.1 hz with rfl | hz; omega; exact i2 z hz⟩
  obtain ⟨k1, k2⟩ := key _ low high (by omega) (by omega) h6
  exact ⟨h1, h2, by omega, by omega, by omega, k1, k2⟩
theorem InR.of_small {l : List Int} (h : ∀ x ∈ l, -2048 ≤ x ∧ x ≤ 2048) : InR l := fun x hx => by have := h x hx; omega
theorem InR.set {l : List Int} (h : InR l) (i : Nat) {x : Int} (hx : -4611686018427387904 ≤ x ∧ x ≤ 4611686018427387904) : InR (l.set i x) := by
  intro y hy
  rcases List.mem_or_eq_of_mem_set hy with hy | rfl
  · exact h y hy
  · exact hx

/-- a function on a box has been entered: the box's block and the result's block -/
structure BxE (H H1 : AHeap) (p r : Nat) (k : Int) (s t : Value) (low high : List Int) : Prop where
  ext : Ext H H1
  ge : H.next ≤ p ∧ H.next ≤ r ∧ p ≠ r
  lt : p < H1.next ∧ r < H1.next
  bp : H1.blk p = some [.int .i64 k, s, t]
  br : H1.blk r = some [.int .i64 0, .slice none 0 0, .slice none 0 0]
  sl : SlI H1 s low
  sh : SlI H1 t high
theorem BxE.mono {H H1 H2 : AHeap} {p r : Nat} {k : Int} {s t : Value} {low high : List Int} (h : BxE H H1 p r k s t low high) (hx : Ext H1 H2) : BxE H H2 p r k s t low high := by
  obtain ⟨h1, h2, h3, h4, h5, h6, h7⟩ := h
  have hn := hx.next
  exact ⟨h1.trans hx, h2, by omega, by rw [hx.blk _ h3.1]; exact h4, by rw [hx.blk _ h3.2]; exact h5, h6.keep (Keep.of_ext hx (Nat.le_refl _)) (Nat.le_refl _), h7.keep (Keep.of_ext hx (Nat.le_refl _)) (Nat.le_refl _)⟩
theorem BxE.mk' {H : AHeap} {k : Int} {s t : Value} {low high : List Int} (hs : SlI H s low) (ht : SlI H t high) :
    BxE H ((H.alloc [.int .i64 k, s, t]).alloc [.int .i64 0, .slice none 0 0, .slice none 0 0]) H.next (H.next + 1) k s t low high := by
  have hx : Ext H ((H.alloc [.int .i64 k, s, t]).alloc [.int .i64 0, .slice none 0 0, .slice none 0 0]) := (Ext.alloc _ _).trans (Ext.alloc _ _)
  refine ⟨hx, by omega, by simp only [alloc_next]; omega, ?_, alloc_new _ _, hs.keep (Keep.of_ext hx (Nat.le_refl _)) (Nat.le_refl _), ht.keep (Keep.of_ext hx (Nat.le_refl _)) (Nat.le_refl _)⟩
  rw [alloc_old _ _ (Nat.lt_succ_self _)]
  exact alloc_new _ _
theorem BxE.boxV {H H1 : AHeap} {p r : Nat} {k : Int} {s t : Value} {low high : List Int} (h : BxE H H1 p r k s t low high) : BoxV H1 (.agg #[.int .i64 k, s, t]) k low high := ⟨s, t, rfl, h.sl, h.sh⟩
theorem BxE.boxP {H H1 : AHeap} {p r : Nat} {k : Int} {s t : Value} {low high : List Int} (h : BxE H H1 p r k s t low high) : BoxP H1 p k s t low high := ⟨h.bp, h.sl, h.sh⟩
theorem BxE.chg {H H1 H2 : AHeap} {p r b : Nat} {k : Int} {s t : Value} {low high : List Int} (h : BxE H H1 p r k s t low high) (hs : SlI H s low) (ht : SlI H t high) (hc : Chg b H1 H2) (hb : H.next ≤ b) (hp : p ≠ b) (hr : r ≠ b) :
    BxE H H2 p r k s t low high := by
  have hx := hc.ext h.ext hb
  have hn := hc.next
  have hl := h.lt
  exact ⟨hx, h.ge, by omega, by rw [hc.blk _ hl.1 hp]; exact h.bp, by rw [hc.blk _ hl.2 hr]; exact h.br, hs.keep (Keep.of_ext hx (Nat.le_refl _)) (Nat.le_refl _), ht.keep (Keep.of_ext hx (Nat.le_refl _)) (Nat.le_refl _)⟩
theorem zero_box : fillV [.int .i64 0, .slice none 0 0, .slice none 0 0] [] = some [.int .i64 0, .slice none 0 0, .slice none 0 0] := rfl

theorem sMirror_ok (lim : Nat) (v : Value) (k side : Int) (low high : List Int) (H : AHeap) (hl : lim ≤ H.next) (hv : BoxV H v k low high) (hn : low.length ≤ 100000000) (hn2 : high.length ≤ 100000000) :
    ACalls Try.prog lim n_spec_MirrorBox [v, .int .i64 side] H fun v H' => BoxR H.next H' v (mirB k side low high).1 (mirB k side low high).2.1 (mirB k side low high).2.2.1 (mirB k side low high).2.2.2 ∧ Ext H H' := by
  obtain ⟨s, t, rfl, hs, ht⟩ := hv
  refine is_spec_MirrorBox.go rfl ?_
  unfold c_spec_MirrorBox
  refine s_reg ?_
  simp only [o_cont, o_callT, callV_fn, o_pure, o_eff, o_callF, o_callN, o_guard, gk_tt, gk_ff, gk_tf, gk_ft, gk_u, t_op, t_alt, t_nil, o_nil, POp.ev, Opd.ev, EOp.ev, env0, gu, gv, setD, resV, List.set, List.map, List.map_nil, List.map_cons, Option.map_none, Option.map_some, Option.some.injEq, exists_eq_left', pickV, binV, convV, load1V, max2V, min2V, nilchkV, unV, boolEq, isNilV, fadV, extV, slenV, ne_eq, not_true_eq_false, if_false, if_true, ite_true, ite_false, Bool.false_eq_true, Bool.true_eq_false, beq_true, beq_false, beq_self_eq_true, Bool.not_true, Bool.not_false, reduceCtorEq, List.getElem?_toArray, List.getElem?_cons_zero, List.getElem?_cons_succ, boxH, cellsV]
  have hE := BxE.mk' (k := k) hs ht
  have hnx : (H.alloc [.int .i64 k, s, t]).next = H.next + 1 := rfl
  rw [hnx]
  generalize (H.alloc [.int .i64 k, s, t]).alloc [.int .i64 0, .slice none 0 0, .slice none 0 0] = H1 at hE ⊢
  generalize H.next + 1 = r at hE ⊢
  have hg0 := hE.ge
  have hl0 := hE.lt
  refine s_test_I (!(goodB k low high && inS side low)) (Ext H1) ?_ (fun H2 hx hg => ?_) (fun H2 hx hg => ?_)
  · simp only [o_cont, o_callT, callV_fn, o_pure, o_eff, o_callF, o_callN, o_guard, gk_tt, gk_ff, gk_tf, gk_ft, gk_u, t_op, t_alt, t_nil, o_nil, POp.ev, Opd.ev, EOp.ev, env0, gu, gv, setD, resV, List.set, List.map, List.map_nil, List.map_cons, Option.map_none, Option.map_some, Option.some.injEq, exists_eq_left', pickV, binV, convV, load1V, max2V, min2V, nilchkV, unV, boolEq, isNilV, fadV, extV, slenV, ne_eq, not_true_eq_false, if_false, if_true, ite_true, ite_false, Bool.false_eq_true, Bool.true_eq_false, beq_true, beq_false, beq_self_eq_true, Bool.not_true, Bool.not_false, reduceCtorEq, List.getElem?_toArray, List.getElem?_cons_zero, List.getElem?_cons_succ, load3 hE.bp]
    refine (bxSide_ok lim _ _ _ _ _ _ (by omega) hE.boxV (by omega) (by omega)).mono ?_
    rintro v H' ⟨rfl, hx⟩
    simp only [o_cont, o_callT, callV_fn, o_pure, o_eff, o_callF, o_callN, o_guard, gk_tt, gk_ff, gk_tf, gk_ft, gk_u, t_op, t_alt, t_nil, o_nil, POp.ev, Opd.ev, EOp.ev, env0, gu, gv, setD, resV, List.set, List.map, List.map_nil, List.map_cons, Option.map_none, Option.map_some, Option.some.injEq, exists_eq_left', pickV, binV, convV, load1V, max2V, min2V, nilchkV, unV, boolEq, isNilV, fadV, extV, slenV, ne_eq, not_true_eq_false, if_false, if_true, ite_true, ite_false, Bool.false_eq_true, Bool.true_eq_false, beq_true, beq_false, beq_self_eq_true, Bool.not_true, Bool.not_false, reduceCtorEq, List.getElem?_toArray, List.getElem?_cons_zero, List.getElem?_cons_succ]
    simp [hx]
  · replace hE := hE.mono hx
    simp only [Bool.not_eq_true'] at hg
    refine s_reg ?_
    simp only [o_cont, o_callT, callV_fn, o_pure, o_eff, o_callF, o_callN, o_guard, gk_tt, gk_ff, gk_tf, gk_ft, gk_u, t_op, t_alt, t_nil, o_nil, POp.ev, Opd.ev, EOp.ev, env0, gu, gv, setD, resV, List.set, List.map, List.map_nil, List.map_cons, Option.map_none, Option.map_some, Option.some.injEq, exists_eq_left', pickV, binV, convV, load1V, max2V, min2V, nilchkV, unV, boolEq, isNilV, fadV, extV, slenV, ne_eq, not_true_eq_false, if_false, if_true, ite_true, ite_false, Bool.false_eq_true, Bool.true_eq_false, beq_true, beq_false, beq_self_eq_true, Bool.not_true, Bool.not_false, reduceCtorEq, List.getElem?_toArray, List.getElem?_cons_zero, List.getElem?_cons_succ, zero_box, store3 (lim := lim) (b := r) (by omega) hE.br]
    refine s_ret1 ?_
    simp +decide only [p_seq_normal, p_seq_ret, p_seq_exit, p_block_normal, p_block_ret, p_block_exit, p_fin_ret, p_fin_normal, reduceIte, Nat.reduceEqDiff, resV, resOne, resL, gv, Option.some.injEq, exists_eq_left', Option.bind_some, Option.map_some, List.getD_cons_zero, List.getD_cons_succ, load3 (put_same _ _ _)]
    refine ⟨.inl ⟨?_, rfl⟩, Chg.ext hE.ext (Chg.put _ _ _) (by omega)⟩
    simp [mirB, hg]
  · replace hE := hE.mono hx
    simp only [Bool.not_eq_false'] at hg
    have hgd : goodB k low high = true := by simp only [Bool.and_eq_true] at hg; exact hg.1
    have hsd : inS side low = true := by simp only [Bool.and_eq_true] at hg; exact hg.2
    obtain ⟨g1, g2, g3, g4, g5, g6, g7⟩ := goodB_small hgd
    simp only [inS, Bool.and_eq_true, decide_eq_true_eq] at hsd
    obtain ⟨sd, rfl⟩ : ∃ n : Nat, side = n := ⟨side.toNat, by omega⟩
    have hsl : sd < low.length := by omega
    have hsh : sd < high.length := by omega
    refine s_skip1 ?_
    simp +decide only [p_seq_normal, p_seq_ret, p_seq_exit, p_block_normal, p_block_ret, p_block_exit, p_fin_ret, p_fin_normal, reduceIte, Nat.reduceEqDiff, resV, resOne, resL, gv, Option.some.injEq, exists_eq_left', Option.bind_some, Option.map_some, List.getD_cons_zero, List.getD_cons_succ]
    refine s_reg ?_
    simp only [o_cont, o_callT, callV_fn, o_pure, o_eff, o_callF, o_callN, o_guard, gk_tt, gk_ff, gk_tf, gk_ft, gk_u, t_op, t_alt, t_nil, o_nil, POp.ev, Opd.ev, EOp.ev, env0, gu, gv, setD, resV, List.set, List.map, List.map_nil, List.map_cons, Option.map_none, Option.map_some, Option.some.injEq, exists_eq_left', pickV, binV, convV, load1V, max2V, min2V, nilchkV, unV, boolEq, isNilV, fadV, extV, slenV, ne_eq, not_true_eq_false, if_false, if_true, ite_true, ite_false, Bool.false_eq_true, Bool.true_eq_false, beq_true, beq_false, beq_self_eq_true, Bool.not_true, Bool.not_false, reduceCtorEq, List.getElem?_toArray, List.getElem?_cons_zero, List.getElem?_cons_succ, cell_blk hE.bp, Nat.zero_add]
    have hg1 := hE.lt
    refine (l1Own_ok H2.next _ _ _ (Nat.le_refl _) hE.sl (by omega)).use ?_
    rintro s1 H3 ⟨b, hb1, hb2, hvb, hx2⟩ _
    replace hE := hE.mono hx2
    simp only [o_cont, o_callT, callV_fn, o_pure, o_eff, o_callF, o_callN, o_guard, gk_tt, gk_ff, gk_tf, gk_ft, gk_u, t_op, t_alt, t_nil, o_nil, POp.ev, Opd.ev, EOp.ev, env0, gu, gv, setD, resV, List.set, List.map, List.map_nil, List.map_cons, Option.map_none, Option.map_some, Option.some.injEq, exists_eq_left', pickV, binV, convV, load1V, max2V, min2V, nilchkV, unV, boolEq, isNilV, fadV, extV, slenV, ne_eq, not_true_eq_false, if_false, if_true, ite_true, ite_false, Bool.false_eq_true, Bool.true_eq_false, beq_true, beq_false, beq_self_eq_true, Bool.not_true, Bool.not_false, reduceCtorEq, List.getElem?_toArray, List.getElem?_cons_zero, List.getElem?_cons_succ]
    have hn3 := hx2.next
    refine (l1Own_ok lim _ _ _ (by omega) hE.sh (by omega)).mono ?_
    rintro t1 H4 ⟨c, hc1, hc2, hvc, hx3⟩
    replace hE := hE.mono hx3
    replace hvb := hvb.ext hx3
    have hn4 := hx3.next
    simp only [o_cont, o_callT, callV_fn, o_pure, o_eff, o_callF, o_callN, o_guard, gk_tt, gk_ff, gk_tf, gk_ft, gk_u, t_op, t_alt, t_nil, o_nil, POp.ev, Opd.ev, EOp.ev, env0, gu, gv, setD, resV, List.set, List.map, List.map_nil, List.map_cons, Option.map_none, Option.map_some, Option.some.injEq, exists_eq_left', pickV, binV, convV, load1V, max2V, min2V, nilchkV, unV, boolEq, isNilV, fadV, extV, slenV, ne_eq, not_true_eq_false, if_false, if_true, ite_true, ite_false, Bool.false_eq_true, Bool.true_eq_false, beq_true, beq_false, beq_self_eq_true, Bool.not_true, Bool.not_false, reduceCtorEq, List.getElem?_toArray, List.getElem?_cons_zero, List.getElem?_cons_succ]
    have hbp : H.next ≠ b := by omega
    have hcp : H.next ≠ c := by omega
    have hbr : r ≠ b := by omega
    have hcr : r ≠ c := by omega
    obtain ⟨bb', o', h1', h2', h3'⟩ := SlI.get hE.sh hsh
    have hgh := g7 _ (List.getElem_mem hsh)
    have hgl := g6 _ (List.getElem_mem hsl)
    have hnh : IntKind.i64.wrap (0 - high[sd]) = -high[sd] := by rw [IntKind.wrap_i64]; omega
    have hnl : IntKind.i64.wrap (0 - low[sd]) = -low[sd] := by rw [IntKind.wrap_i64]; omega
    obtain ⟨cs5, hs5, hv5⟩ := hvb.put1 (lim := lim) (i := sd) (by omega) (cells_int .i64 (-high[sd])) (by omega)
    refine s_reg ?_
    simp only [o_cont, o_callT, callV_fn, o_pure, o_eff, o_callF, o_callN, o_guard, gk_tt, gk_ff, gk_tf, gk_ft, gk_u, t_op, t_alt, t_nil, o_nil, POp.ev, Opd.ev, EOp.ev, env0, gu, gv, setD, resV, List.set, List.map, List.map_nil, List.map_cons, Option.map_none, Option.map_some, Option.some.injEq, exists_eq_left', pickV, binV, convV, load1V, max2V, min2V, nilchkV, unV, boolEq, isNilV, fadV, extV, slenV, ne_eq, not_true_eq_false, if_false, if_true, ite_true, ite_false, Bool.false_eq_true, Bool.true_eq_false, beq_true, beq_false, beq_self_eq_true, Bool.not_true, Bool.not_false, reduceCtorEq, List.getElem?_toArray, List.getElem?_cons_zero, List.getElem?_cons_succ, cell_blk hE.bp, Nat.zero_add, h1', h3', hnh, hvb.iad .i64 hsl, Nat.mul_one, hs5]
    replace hvc := hvc.chg (Chg.put b H4 cs5) (by omega : c ≠ b)
    replace hE := hE.chg hs ht (Chg.put b H4 cs5) (by omega) hbp hbr
    have hn5 : (H4.put b cs5).next = H4.next := rfl
    generalize H4.put b cs5 = H5 at hv5 hvc hE hn5 ⊢
    obtain ⟨bb, o, h1, h2, h3⟩ := SlI.get hE.sl hsl
    obtain ⟨cs6, hs6, hv6⟩ := hvc.put1 (lim := lim) (i := sd) (by omega) (cells_int .i64 (-low[sd])) (by omega)
    refine s_reg ?_
    simp only [o_cont, o_callT, callV_fn, o_pure, o_eff, o_callF, o_callN, o_guard, gk_tt, gk_ff, gk_tf, gk_ft, gk_u, t_op, t_alt, t_nil, o_nil, POp.ev, Opd.ev, EOp.ev, env0, gu, gv, setD, resV, List.set, List.map, List.map_nil, List.map_cons, Option.map_none, Option.map_some, Option.some.injEq, exists_eq_left', pickV, binV, convV, load1V, max2V, min2V, nilchkV, unV, boolEq, isNilV, fadV, extV, slenV, ne_eq, not_true_eq_false, if_false, if_true, ite_true, ite_false, Bool.false_eq_true, Bool.true_eq_false, beq_true, beq_false, beq_self_eq_true, Bool.not_true, Bool.not_false, reduceCtorEq, List.getElem?_toArray, List.getElem?_cons_zero, List.getElem?_cons_succ, cell_blk hE.bp, Nat.zero_add, h1, h3, hnl, hvc.iad .i64 hsh, Nat.mul_one, hs6]
    replace hv5 := hv5.chg (Chg.put c H5 cs6) (by omega : b ≠ c)
    replace hE := hE.chg hs ht (Chg.put c H5 cs6) (by omega) hcp hcr
    have hn6 : (H5.put c cs6).next = H5.next := rfl
    generalize H5.put c cs6 = H6 at hv5 hv6 hE hn6 ⊢
    obtain ⟨kn, rfl⟩ : ∃ kn : Nat, k = kn := ⟨k.toNat, by omega⟩
    have hvl : VecI H6 b s1 (low.set sd (-high[sd])) := by
      unfold VecI
      rw [List.length_set, List.map_set]
      exact hv5
    have hvh : VecI H6 c t1 (high.set sd (-low[sd])) := by
      unfold VecI
      rw [List.length_set, List.map_set]
      exact hv6
    have hmir : mirB kn sd low high = makeB kn (low.set sd (-high[sd])) (high.set sd (-low[sd])) := by
      unfold mirB
      rw [if_pos hg]
      simp [hsl, hsh]
    have hl6 := hE.lt
    refine s_reg ?_
    simp only [o_cont, o_callT, callV_fn, o_pure, o_eff, o_callF, o_callN, o_guard, gk_tt, gk_ff, gk_tf, gk_ft, gk_u, t_op, t_alt, t_nil, o_nil, POp.ev, Opd.ev, EOp.ev, env0, gu, gv, setD, resV, List.set, List.map, List.map_nil, List.map_cons, Option.map_none, Option.map_some, Option.some.injEq, exists_eq_left', pickV, binV, convV, load1V, max2V, min2V, nilchkV, unV, boolEq, isNilV, fadV, extV, slenV, ne_eq, not_true_eq_false, if_false, if_true, ite_true, ite_false, Bool.false_eq_true, Bool.true_eq_false, beq_true, beq_false, beq_self_eq_true, Bool.not_true, Bool.not_false, reduceCtorEq, List.getElem?_toArray, List.getElem?_cons_zero, List.getElem?_cons_succ, cell_blk hE.bp, Nat.zero_add]
    refine (bxMake_ok lim kn s1 t1 _ _ H6 (by omega) hvl.sl hvh.sl (by simp; omega) (by simp; omega) (by omega) ((InR.of_small g6).set _ (by omega)) ((InR.of_small g7).set _ (by omega))).mono ?_
    rintro v H7 ⟨hR, hx7⟩
    replace hE := hE.mono hx7
    obtain ⟨x, y, z, rfl⟩ := hR.form
    simp only [o_cont, o_callT, callV_fn, o_pure, o_eff, o_callF, o_callN, o_guard, gk_tt, gk_ff, gk_tf, gk_ft, gk_u, t_op, t_alt, t_nil, o_nil, POp.ev, Opd.ev, EOp.ev, env0, gu, gv, setD, resV, List.set, List.map, List.map_nil, List.map_cons, Option.map_none, Option.map_some, Option.some.injEq, exists_eq_left', pickV, binV, convV, load1V, max2V, min2V, nilchkV, unV, boolEq, isNilV, fadV, extV, slenV, ne_eq, not_true_eq_false, if_false, if_true, ite_true, ite_false, Bool.false_eq_true, Bool.true_eq_false, beq_true, beq_false, beq_self_eq_true, Bool.not_true, Bool.not_false, reduceCtorEq, List.getElem?_toArray, List.getElem?_cons_zero, List.getElem?_cons_succ, store3 (lim := lim) (b := r) (by omega) hE.br]
    refine s_ret1 ?_
    simp +decide only [p_seq_normal, p_seq_ret, p_seq_exit, p_block_normal, p_block_ret, p_block_exit, p_fin_ret, p_fin_normal, reduceIte, Nat.reduceEqDiff, resV, resOne, resL, gv, Option.some.injEq, exists_eq_left', Option.bind_some, Option.map_some, List.getD_cons_zero, List.getD_cons_succ, load3 (put_same _ _ _)]
    refine ⟨?_, Chg.ext hE.ext (Chg.put _ _ _) (by omega)⟩
    rw [hmir]
    exact (hR.put (by omega) _).low (by omega)
end Go.Proofs.Ytfnjjkljpegoeaa
