/- Parts of the proof of a statement of this seat: contracts of functions that the law calls, or the law's own row; no condition. -/
import Derived.Laws.Externs
import Derived.Shelf.Spec.BitsCarry
import Derived.Lib.Walk
import Derived.Test.YtldpdjpchcoigaaGreatM2
/- Families, the reference: the family at a moment, its signs; no condition beyond stated ranges. -/
namespace Go.Proofs.YtldpdjpchcoigaaGreat
open Go.Ab Ints
set_option linter.unusedSimpArgs false
set_option linter.unusedVariables false

def famA (p : List Int) (F : Int) (k j : Nat) : Int := if j < k then p.getD j 0 * F else 0
def famB (p q : List Int) (i F : Int) (k j : Nat) : Int := p.getD j 0 * F + if j < k then q.getD j 0 * i else 0
theorem getD_ge {p : List Int} {j : Nat} (h : p.length ≤ j) : p.getD j 0 = 0 := by rw [List.getD_eq_getElem?_getD, List.getElem?_eq_none h]; rfl
theorem faAt_ok (lim : Nat) (s u : Value) (p q : List Int) (i : Int) (fine : Nat) (H : AHeap) (hl : lim ≤ H.next) (hs : SlI H s p) (hu : SlI H u q) (hn : p.length ≤ 6) (hn2 : q.length ≤ 6)
    (hA : ∀ x ∈ p, x.natAbs ≤ 1000) (hB : ∀ x ∈ q, x.natAbs ≤ 1000) (hf : fine ≤ 4) (hi : i.natAbs ≤ 16) :
    ACalls Tryz.prog lim n_spec_faAt [s, u, .int .i64 i, .int .i64 (fine : Int)] H fun v H' => (∃ b, H.next ≤ b ∧ b < H'.next ∧ VecI H' b v (fam p q i (2 ^ fine))) ∧ Ext H H' := by
  refine is_spec_faAt.go rfl ?_
  unfold c_spec_faAt
  have hF : (2 : Int) ^ fine ≤ 2 ^ 4 := pow_le2 hf
  have hF0 := pow_pos2 fine
  have hF16 : (2 : Int) ^ 4 = 16 := by decide
  refine s_reg ?_
  simp only [o_pure, o_nil, POp.ev, Opd.ev, env0, gu, setD, List.set, Option.some.injEq, exists_eq_left']
  have hmk : mksliceH H 8 [.int .i64 0] (.int .i64 6) (.int .i64 6) = some (.slice (some ⟨H.next, 0, some 0⟩) 6 6, H.alloc (List.replicate 6 (.int .i64 0))) := mk_ints H 6 (by omega)
  refine s_reg ?_
  simp only [o_pure, o_eff, o_nil, POp.ev, Opd.ev, EOp.ev, gv, setD, List.set, Option.some.injEq, exists_eq_left', hmk]
  have hv := VecI.mk' H 6
  have hx := Ext.alloc H (List.replicate 6 (Value.int .i64 0))
  have hbl : H.next < (H.alloc (List.replicate 6 (Value.int .i64 0))).next := Nat.lt_succ_self _
  have e0 : List.replicate 6 (0 : Int) = (List.range 6).map (famA p (2 ^ fine) 0) := by
    rw [show famA p (2 ^ fine) 0 = fun _ => 0 from funext fun j => by simp [famA]]
    rfl
  rw [e0] at hv
  generalize H.alloc (List.replicate 6 (Value.int .i64 0)) = H1 at hv hx hbl ⊢
  generalize (Value.slice (some ⟨H.next, 0, some 0⟩) 6 6) = v at hv ⊢
  refine s_assoc (s_reg ?_)
  simp only [o_pure, o_nil, POp.ev, Opd.ev, gv, setD, List.set, Option.some.injEq, exists_eq_left', hs.lenV]
  refine s_block ?_
  refine s_loop1 (fun j e' H' => ∃ (k : Nat) (x6 x7 : Value), k + j = p.length ∧ VecI H' H.next v ((List.range 6).map (famA p (2 ^ fine) k)) ∧ H.next < H'.next ∧ Ext H H' ∧ e' = [s, u, .int .i64 i, .int .i64 (fine : Int), .slice none 0 0, v, x6, x7, undef, undef, s, .int .i64 p.length, .int .i64 k, undef, undef, undef]) p.length ⟨0, _, _, by omega, hv, hbl, hx, rfl⟩ ?_
  clear hv hx hbl
  rintro j e' H2 ⟨k, x6, x7, hkj, hv, hbl, hx, rfl⟩
  refine s_test ?_
  simp only [o_pure, o_nil, POp.ev, Opd.ev, gv, setD, Option.some.injEq, exists_eq_left', binV, ne_eq, not_true_eq_false, if_false]
  refine Test.split (fun hlt => ?_) (fun hlt => ?_)
  · have hlk : k < p.length := by simpa using hlt
    obtain ⟨b2, o2, g1, g2, g3⟩ := (SlI.ext hs hx).get hlk
    have hab := hA _ (List.getElem_mem hlk)
    obtain ⟨a1, a2⟩ := VecI.at hv (i := k) (by simp; omega)
    rw [map_range_getD 6 _ (by omega)] at a2
    obtain ⟨cs, c1, c2⟩ := VecI.put (lim := lim) hv hl (i := k) (by simp; omega) (p.getD k 0 * 2 ^ fine)
    have hm : (p[k] * 2 ^ fine).natAbs ≤ 1000 * 16 := by rw [Int.natAbs_mul]; exact Nat.mul_le_mul hab (by omega)
    have w3 : IntKind.i64.wrap (p[k] * 2 ^ fine) = p.getD k 0 * 2 ^ fine := by
      rw [getD_lt hlk]
      exact wr_id (by omega) (by omega)
    have z : famA p (2 ^ fine) k k = 0 := by simp [famA]
    have w4 : IntKind.i64.wrap (0 + p.getD k 0 * 2 ^ fine) = p.getD k 0 * 2 ^ fine := by
      rw [Int.zero_add, getD_lt hlk]; exact wr_id (by omega) (by omega)
    have es : ((List.range 6).map (famA p (2 ^ fine) k)).set k (p.getD k 0 * 2 ^ fine) = (List.range 6).map (famA p (2 ^ fine) (k + 1)) := by
      have e : p.getD k 0 * 2 ^ fine = famA p (2 ^ fine) (k + 1) k := by unfold famA; rw [if_pos (by omega)]
      rw [e]
      exact set_map_range _ _ (by omega) fun m _ hne => by unfold famA; by_cases h : m < k; rw [if_pos h, if_pos (by omega)]; rw [if_neg h, if_neg (by omega)]
    rw [es] at c2
    rw [z] at a2
    refine s_skip1 ?_
    simp +decide only [p_seq_normal]
    refine s_block ?_
    refine s_reg ?_
    simp only [o_pure, o_nil, POp.ev, Opd.ev, gv, setD, List.set, Option.some.injEq, exists_eq_left', load1V, g1, g3]
    refine s_reg1 ?_
    simp only [o_pure, o_callN, POp.ev, Opd.ev, gv, setD, List.map, Option.some.injEq, exists_eq_left', load1V, a1, a2]
    refine (Ints.power_ok _ fine H2 (by omega)).use ?_
    rintro _ HH ⟨rfl, hh⟩ _
    subst HH
    simp only [o_cont, o_pure, o_eff, o_nil, POp.ev, Opd.ev, EOp.ev, gv, setD, Option.some.injEq, exists_eq_left', binV, ne_eq, not_true_eq_false, if_false, w3, w4, a1, c1]
    simp +decide only [p_seq_normal, p_block_normal]
    refine s_reg1 ?_
    simp only [o_pure, o_nil, POp.ev, Opd.ev, gv, setD, List.set, Option.some.injEq, exists_eq_left', binV, ne_eq, not_true_eq_false, if_false, add1 (i := k) (by omega)]
    simp +decide only [p_seq_normal]
    exact Round.mk (j - 1) (by omega) ⟨k + 1, _, _, by omega, c2, hbl, Chg.ext hx (Chg.put _ _ _) (Nat.le_refl _), rfl⟩
  have hge : k = p.length := by simp at hlt; omega
  subst hge
  refine s_exit1 ?_
  simp +decide only [p_seq_normal, p_seq_exit, p_block_exit, reduceIte]
  have e1 : (List.range 6).map (famA p (2 ^ fine) p.length) = (List.range 6).map (famB p q i (2 ^ fine) 0) := List.map_congr_left fun m _ => by
    unfold famA famB
    by_cases h : m < p.length
    · rw [if_pos h]; simp
    · rw [if_neg h, getD_ge (by omega)]; simp
  rw [e1] at hv
  refine s_assoc (s_reg ?_)
  simp only [o_pure, o_nil, POp.ev, Opd.ev, gv, setD, List.set, Option.some.injEq, exists_eq_left', hu.lenV]
  refine s_block ?_
  refine s_loop1 (fun j e' H' => ∃ (k : Nat) (x8 x9 : Value), k + j = q.length ∧ VecI H' H.next v ((List.range 6).map (famB p q i (2 ^ fine) k)) ∧ H.next < H'.next ∧ Ext H H' ∧ e' = [s, u, .int .i64 i, .int .i64 (fine : Int), .slice none 0 0, v, x6, x7, x8, x9, s, .int .i64 p.length, .int .i64 p.length, u, .int .i64 q.length, .int .i64 k]) q.length ⟨0, _, _, by omega, hv, hbl, hx, rfl⟩ ?_
  clear hv hx hbl
  rintro j e' H3 ⟨k, x8, x9, hkj, hv, hbl, hx, rfl⟩
  refine s_test ?_
  simp only [o_pure, o_nil, POp.ev, Opd.ev, gv, setD, Option.some.injEq, exists_eq_left', binV, ne_eq, not_true_eq_false, if_false]
  refine Test.split (fun hlt => ?_) (fun hlt => ?_)
  · have hlk : k < q.length := by simpa using hlt
    obtain ⟨b2, o2, g1, g2, g3⟩ := (SlI.ext hu hx).get hlk
    have hab := hB _ (List.getElem_mem hlk)
    obtain ⟨a1, a2⟩ := VecI.at hv (i := k) (by simp; omega)
    rw [map_range_getD 6 _ (by omega)] at a2
    obtain ⟨cs, c1, c2⟩ := VecI.put (lim := lim) hv hl (i := k) (by simp; omega) (p.getD k 0 * 2 ^ fine + q.getD k 0 * i)
    have hm : (q[k] * i).natAbs ≤ 1000 * 16 := by rw [Int.natAbs_mul]; exact Nat.mul_le_mul hab (by omega)
    have hm2 : (p.getD k 0 * 2 ^ fine).natAbs ≤ 1000 * 16 := by rw [Int.natAbs_mul]; exact Nat.mul_le_mul (getD_abs hA k) (by omega)
    have w3 : IntKind.i64.wrap (q[k] * i) = q.getD k 0 * i := by
      rw [getD_lt hlk]
      exact wr_id (by omega) (by omega)
    rw [← getD_lt hlk] at hm
    have z : famB p q i (2 ^ fine) k k = p.getD k 0 * 2 ^ fine := by simp [famB]
    have w4 : IntKind.i64.wrap (p.getD k 0 * 2 ^ fine + q.getD k 0 * i) = p.getD k 0 * 2 ^ fine + q.getD k 0 * i := wr_id (by omega) (by omega)
    have es : ((List.range 6).map (famB p q i (2 ^ fine) k)).set k (p.getD k 0 * 2 ^ fine + q.getD k 0 * i) = (List.range 6).map (famB p q i (2 ^ fine) (k + 1)) := by
      have e : p.getD k 0 * 2 ^ fine + q.getD k 0 * i = famB p q i (2 ^ fine) (k + 1) k := by unfold famB; rw [if_pos (by omega)]
      rw [e]
      exact set_map_range _ _ (by omega) fun m _ hne => by unfold famB; by_cases h : m < k; rw [if_pos h, if_pos (by omega)]; rw [if_neg h, if_neg (by omega)]
    rw [es] at c2
    rw [z] at a2
    refine s_skip1 ?_
    simp +decide only [p_seq_normal]
    refine s_block ?_
    refine s_reg ?_
    simp only [o_pure, o_nil, POp.ev, Opd.ev, gv, setD, List.set, Option.some.injEq, exists_eq_left', load1V, g1, g3]
    refine s_reg1 ?_
    simp only [o_pure, o_eff, o_nil, POp.ev, Opd.ev, EOp.ev, gv, setD, Option.some.injEq, exists_eq_left', binV, load1V, ne_eq, not_true_eq_false, if_false, a1, a2, w3, w4, c1]
    simp +decide only [p_seq_normal, p_block_normal]
    refine s_reg1 ?_
    simp only [o_pure, o_nil, POp.ev, Opd.ev, gv, setD, List.set, Option.some.injEq, exists_eq_left', binV, ne_eq, not_true_eq_false, if_false, add1 (i := k) (by omega)]
    simp +decide only [p_seq_normal]
    exact Round.mk (j - 1) (by omega) ⟨k + 1, _, _, by omega, c2, hbl, Chg.ext hx (Chg.put _ _ _) (Nat.le_refl _), rfl⟩
  have hge : k = q.length := by simp at hlt; omega
  subst hge
  refine s_exit1 ?_
  simp +decide only [p_seq_normal, p_seq_exit, p_block_exit, reduceIte]
  have e2 : (List.range 6).map (famB p q i (2 ^ fine) q.length) = fam p q i (2 ^ fine) := List.map_congr_left fun m _ => by
    unfold famB
    by_cases h : m < q.length
    · rw [if_pos h]
    · rw [if_neg h, getD_ge (p := q) (by omega)]; simp
  rw [e2] at hv
  refine s_reg ?_
  simp only [o_pure, o_nil, POp.ev, Opd.ev, gv, setD, List.set, Option.some.injEq, exists_eq_left']
  refine s_ret1 ?_
  simp +decide only [p_fin_ret, resV, resOne, gv, Option.some.injEq, exists_eq_left']
  exact ⟨⟨H.next, Nat.le_refl _, hbl, hv⟩, hx⟩
theorem wr_step (a b c d : Int) : wr (wr (wr a * b) + wr (c * wr d)) = wr (a * b + c * d) := by rw [wr_mul_l, wr_mul_r, wr_add]
theorem sgSign_ok (lim : Nat) (s : Value) (f : List Int) (n : Int) (k : Nat) (H : AHeap) (hs : SlI H s f) (hn : f.length ≤ 6) (hA : ∀ x ∈ f, x.natAbs ≤ 32000) (hn1 : n.natAbs ≤ 256) (hk : k ≤ 5) :
    ACalls Tryz.prog lim n_spec_sgSign [s, .int .i64 n, .int .i64 (k : Int)] H fun v H' => v = .int .i64 (sgA f (n, k)) ∧ H' = H := by
  refine is_spec_sgSign.go rfl ?_
  unfold c_spec_sgSign
  refine s_reg ?_
  simp only [o_pure, o_nil, POp.ev, Opd.ev, env0, gu, setD, List.set, Option.some.injEq, exists_eq_left']
  refine s_reg ?_
  simp only [o_pure, o_nil, POp.ev, Opd.ev, setD, List.set, Option.some.injEq, exists_eq_left']
  refine s_assoc (s_reg ?_)
  simp only [o_pure, o_nil, POp.ev, Opd.ev, gv, setD, List.set, Option.some.injEq, exists_eq_left', hs.lenV]
  refine s_block ?_
  have w0 : wr 0 = 0 := by decide
  have w1 : wr 1 = 1 := by decide
  refine s_loop1 (fun j e' H' => H' = H ∧ ∃ (i : Nat) (x6 : Value), i + j = f.length ∧ e' = [s, .int .i64 n, .int .i64 (k : Int), .int .i64 0, .int .i64 (wr (hv n (2 ^ k) (f.take i))), .int .i64 (wr (n ^ i)), x6, s, .int .i64 f.length, .int .i64 i]) f.length ⟨rfl, 0, undef, by omega, by rw [List.take_zero, hv, Int.pow_zero, w0, w1]; rfl⟩ ?_
  rintro j e' H1 ⟨rfl, i, x6, hij, rfl⟩
  refine s_test ?_
  simp only [o_pure, o_nil, POp.ev, Opd.ev, gv, setD, Option.some.injEq, exists_eq_left', binV, ne_eq, not_true_eq_false, if_false]
  refine Test.split (fun hlt => ?_) (fun hlt => ?_)
  · have hlk : i < f.length := by simpa using hlt
    obtain ⟨b2, o2, g1, g2, g3⟩ := hs.get hlk
    refine s_skip1 ?_
    simp +decide only [p_seq_normal]
    refine s_block ?_
    refine s_reg ?_
    simp only [o_pure, o_nil, POp.ev, Opd.ev, gv, setD, List.set, Option.some.injEq, exists_eq_left', load1V, g1, g3]
    refine s_reg ?_
    simp only [o_pure, o_callF, POp.ev, Opd.ev, gv, setD, List.map, Option.some.injEq, exists_eq_left']
    refine (Ints.power_ok _ k _ (by omega)).mono ?_
    rintro _ HH ⟨rfl, hh⟩
    subst HH
    simp only [o_cont, o_pure, o_nil, POp.ev, Opd.ev, gv, setD, List.set, Option.some.injEq, exists_eq_left', binV, ne_eq, not_true_eq_false, if_false]
    refine s_reg1 ?_
    simp only [o_pure, o_nil, POp.ev, Opd.ev, gv, setD, List.set, Option.some.injEq, exists_eq_left', binV, ne_eq, not_true_eq_false, if_false]
    simp +decide only [p_seq_normal, p_block_normal]
    refine s_reg1 ?_
    simp only [o_pure, o_nil, POp.ev, Opd.ev, gv, setD, List.set, Option.some.injEq, exists_eq_left', binV, ne_eq, not_true_eq_false, if_false, add1 (i := i) (by omega)]
    simp +decide only [p_seq_normal]
    refine Round.mk (j - 1) (by omega) ⟨rfl, i + 1, .int .i64 f[i], by omega, ?_⟩
    have e1 : wr (hv n (2 ^ k) (f.take (i + 1))) = wr (wr (wr (hv n (2 ^ k) (f.take i)) * 2 ^ k) + wr (f[i] * wr (n ^ i))) := by
      rw [wr_step, List.take_succ_eq_append_getElem hlk, hv_snoc]
      have : (f.take i).length = i := by simp; omega
      rw [this]
    have e2 : wr (n ^ (i + 1)) = wr (wr (n ^ i) * n) := by rw [wr_mul_l, Int.pow_succ]
    rw [e1, e2]
  · have hge : i = f.length := by simp at hlt; omega
    subst hge
    refine s_exit1 ?_
    simp +decide only [p_seq_normal, p_seq_exit, p_block_exit, reduceIte]
    have hb : wr (hv n (2 ^ k) (f.take f.length)) = hv n (2 ^ k) f := by
      rw [List.take_length]
      cases f with
      | nil => rfl
      | cons a t =>
        have h2 : ((2 : Int) ^ k).natAbs ≤ 256 := by
          have := pow_le2 (show k ≤ 8 by omega)
          have h3 := pow_pos2 k
          have : (2 : Int) ^ 8 = 256 := by decide
          omega
        have h3 := hv_abs hn1 h2 a t hA
        have h4 : 256 ^ t.length ≤ 256 ^ 5 := Nat.pow_le_pow_right (by decide) (by simp at hn; omega)
        have h5 : (t.length + 1) * (32000 * 256 ^ t.length) ≤ 6 * (32000 * 256 ^ 5) := Nat.mul_le_mul (by simpa using hn) (Nat.mul_le_mul_left _ h4)
        exact wr_id (by omega) (by omega)
    rw [hb]
    refine s_reg ?_
    simp only [o_pure, o_callF, POp.ev, Opd.ev, gv, setD, List.map, Option.some.injEq, exists_eq_left']
    refine (l1Sign_ok _ _ _).eq ?_
    simp only [o_cont, o_pure, o_nil, POp.ev, Opd.ev, gv, setD, List.set, Option.some.injEq, exists_eq_left']
    refine s_ret1 ?_
    simp +decide only [p_fin_ret, resV, resOne, gv, Option.some.injEq, exists_eq_left']
    exact ⟨rfl, trivial⟩
/-- what a family is given by -/
structure Fam (H : AHeap) (s u : Value) (p q : List Int) (fine : Nat) : Prop where
  hs : SlI H s p
  hu : SlI H u q
  hn : p.length ≤ 6
  hn2 : q.length ≤ 6
  hA : ∀ x ∈ p, x.natAbs ≤ 1000
  hB : ∀ x ∈ q, x.natAbs ≤ 1000
  hf : fine ≤ 4
theorem Fam.ext {H H' : AHeap} {s u : Value} {p q : List Int} {fine : Nat} (h : Fam H s u p q fine) (hx : Ext H H') : Fam H' s u p q fine :=
  ⟨SlI.ext h.hs hx, SlI.ext h.hu hx, h.hn, h.hn2, h.hA, h.hB, h.hf⟩
theorem Fam.pow {H : AHeap} {s u : Value} {p q : List Int} {fine : Nat} (h : Fam H s u p q fine) : ((2 : Int) ^ fine).natAbs ≤ 16 := by
  have := pow_le2 h.hf
  have := pow_pos2 fine
  have : (2 : Int) ^ 4 = 16 := by decide
  omega
theorem Fam.abs {H : AHeap} {s u : Value} {p q : List Int} {fine : Nat} (h : Fam H s u p q fine) {i : Int} (hi : i.natAbs ≤ 16) : ∀ x ∈ fam p q i (2 ^ fine), x.natAbs ≤ 32000 := fam_abs h.hA h.hB hi h.pow
theorem faSign_ok (lim : Nat) (s u : Value) (p q : List Int) (fine : Nat) (d : Int × Nat) (i : Int) (H : AHeap) (hl : lim ≤ H.next) (h : Fam H s u p q fine) (hi : i.natAbs ≤ 16) (hd : d.1.natAbs ≤ 256) (hk : d.2 ≤ 5) :
    ACalls Tryz.prog lim n_spec_faSign [s, u, dV d, .int .i64 i, .int .i64 (fine : Int)] H fun v H' => v = .int .i64 (sgA (fam p q i (2 ^ fine)) d) ∧ Ext H H' := by
  refine is_spec_faSign.go rfl ?_
  unfold c_spec_faSign dV dyV
  refine s_reg ?_
  simp only [o_pure, o_eff, o_nil, POp.ev, Opd.ev, EOp.ev, env0, gu, gv, setD, List.set, Option.map_some, Option.some.injEq, exists_eq_left', boxH, cellsV]
  have hx := Ext.alloc H [.int .i64 d.1, .int .i64 (d.2 : Int)]
  have hb := alloc_new H [.int .i64 d.1, .int .i64 (d.2 : Int)]
  generalize H.alloc [.int .i64 d.1, .int .i64 (d.2 : Int)] = H1 at hx hb ⊢
  have h1 := h.ext hx
  have hn1 := hx.next
  refine s_reg ?_
  simp only [o_pure, o_callN, POp.ev, Opd.ev, gv, setD, List.map, Option.some.injEq, exists_eq_left', load1V, fadV, List.getElem?_cons_zero, List.getElem?_cons_succ, Nat.zero_add, cell_blk hb]
  refine (faAt_ok _ s u p q i fine H1 (Nat.le_refl _) h1.hs h1.hu h1.hn h1.hn2 h1.hA h1.hB h1.hf hi).use ?_
  rintro v H2 ⟨⟨b, b1, b2, hv⟩, hx2⟩ _
  simp only [o_cont, o_callF, Opd.ev, gv, setD, List.map]
  refine (sgSign_ok lim v _ d.1 d.2 H2 hv.sl (by rw [fam_len]; omega) (h.abs hi) hd hk).mono ?_
  rintro _ HH ⟨rfl, hh⟩
  subst HH
  simp only [o_cont, o_pure, o_nil, POp.ev, Opd.ev, gv, setD, List.set, Option.some.injEq, exists_eq_left']
  refine s_ret1 ?_
  simp +decide only [p_fin_ret, resV, resOne, gv, Option.some.injEq, exists_eq_left']
  exact ⟨trivial, hx.trans hx2⟩
theorem faBoth_ok (lim : Nat) (s u : Value) (p q : List Int) (fine : Nat) (d : Int × Nat) (i k : Int) (H : AHeap) (hl : lim ≤ H.next) (h : Fam H s u p q fine) (hi : i.natAbs ≤ 16) (hi2 : k.natAbs ≤ 16) (hd : d.1.natAbs ≤ 256) (hk : d.2 ≤ 5) :
    ACalls Tryz.prog lim n_spec_faBoth [s, u, dV d, .int .i64 i, .int .i64 k, .int .i64 (fine : Int)] H fun v H' => v = .int .i64 (bothA (fam p q i (2 ^ fine)) (fam p q k (2 ^ fine)) d) ∧ Ext H H' := by
  refine is_spec_faBoth.go rfl ?_
  have hdv : dV d = .agg #[.int .i64 d.1, .int .i64 (d.2 : Int)] := rfl
  unfold c_spec_faBoth
  rw [hdv]
  refine s_reg ?_
  simp only [o_pure, o_eff, o_nil, POp.ev, Opd.ev, EOp.ev, env0, gu, gv, setD, List.set, Option.map_some, Option.some.injEq, exists_eq_left', boxH, cellsV]
  have hx := Ext.alloc H [.int .i64 d.1, .int .i64 (d.2 : Int)]
  have hb := alloc_new H [.int .i64 d.1, .int .i64 (d.2 : Int)]
  have hbl : H.next < (H.alloc [.int .i64 d.1, .int .i64 (d.2 : Int)]).next := Nat.lt_succ_self _
  generalize H.alloc [.int .i64 d.1, .int .i64 (d.2 : Int)] = H1 at hx hb hbl ⊢
  have h1 := h.ext hx
  have hn1 := hx.next
  refine s_reg ?_
  simp only [o_pure, o_callF, POp.ev, Opd.ev, gv, setD, List.map, Option.some.injEq, exists_eq_left', load2 hb]
  rw [← hdv]
  refine (faSign_ok lim s u p q fine d i H1 (by omega) h1 hi hd hk).mono ?_
  rintro _ H2 ⟨rfl, hx2⟩
  have hn2 := hx2.next
  replace hb := (hx2.blk _ hbl).trans hb
  have h2 := h1.ext hx2
  simp only [o_cont, o_pure, o_nil, POp.ev, Opd.ev, gv, setD, List.set, Option.some.injEq, exists_eq_left']
  unfold bothA
  refine s_test ?_
  simp only [o_pure, o_callF, POp.ev, Opd.ev, gv, setD, List.map, Option.some.injEq, exists_eq_left', load2 hb]
  rw [← hdv]
  refine (faSign_ok lim s u p q fine d k H2 (by omega) h2 hi2 hd hk).mono ?_
  rintro _ H3 ⟨rfl, hx3⟩
  simp only [o_cont, o_pure, o_nil, POp.ev, Opd.ev, gv, setD, Option.some.injEq, exists_eq_left', binV, ne_eq, not_true_eq_false, if_false]
  have hx03 := (hx.trans hx2).trans hx3
  refine Test.split (fun hh => ?_) (fun hh => ?_)
  · refine s_reg ?_
    simp only [o_pure, o_nil, POp.ev, Opd.ev, setD, List.set, Option.some.injEq, exists_eq_left']
    refine s_ret1 ?_
    simp +decide only [p_seq_ret, p_fin_ret, resV, resOne, gv, Option.some.injEq, exists_eq_left']
    exact ⟨by rw [if_neg (by simpa using hh)], hx03⟩
  · refine s_skip1 ?_
    simp +decide only [p_seq_normal]
    refine s_reg ?_
    simp only [o_pure, o_nil, POp.ev, Opd.ev, gv, setD, List.set, Option.some.injEq, exists_eq_left']
    refine s_ret1 ?_
    simp +decide only [p_fin_ret, resV, resOne, gv, Option.some.injEq, exists_eq_left']
    exact ⟨by rw [if_pos (by simpa using hh)], hx03⟩
theorem sgA_small (f : List Int) (d : Int × Nat) : -1 ≤ sgA f d ∧ sgA f d ≤ 1 := by
  unfold sgA
  rcases sgn3_cases (hv d.1 (2 ^ d.2) f) with h | h | h <;> omega
theorem mul_small {a b : Int} (ha : -1 ≤ a ∧ a ≤ 1) (hb : -1 ≤ b ∧ b ≤ 1) : -1 ≤ a * b ∧ a * b ≤ 1 := by
  obtain rfl | rfl | rfl : a = -1 ∨ a = 0 ∨ a = 1 := by omega
  all_goals omega
theorem bothA_small (f g : List Int) (d : Int × Nat) : -1 ≤ bothA f g d ∧ bothA f g d ≤ 1 := by
  unfold bothA
  split
  · exact sgA_small f d
  · omega
theorem faCross_ok (lim : Nat) (s u : Value) (p q : List Int) (fine : Nat) (a b : Int × Nat) (i : Int) (H : AHeap) (hl : lim ≤ H.next) (h : Fam H s u p q fine) (hi : i.natAbs ≤ 16) (ha : a.1.natAbs ≤ 256) (hka : a.2 ≤ 5) (hb : b.1.natAbs ≤ 256) (hkb : b.2 ≤ 5) :
    ACalls Tryz.prog lim n_spec_faCross [s, u, tv ⟨a.1, a.2, b.1, b.2⟩, .int .i64 i, .int .i64 (fine : Int)] H fun v H' => v = .bool (decide (sgA (fam p q i (2 ^ fine)) a * sgA (fam p q i (2 ^ fine)) b < 0)) ∧ Ext H H' := by
  refine is_spec_faCross.go rfl ?_
  have hda : dV a = .agg #[.int .i64 a.1, .int .i64 (a.2 : Int)] := rfl
  have hdb : dV b = .agg #[.int .i64 b.1, .int .i64 (b.2 : Int)] := rfl
  unfold c_spec_faCross tv
  refine s_reg ?_
  simp only [o_pure, o_eff, o_nil, POp.ev, Opd.ev, EOp.ev, env0, gu, gv, setD, List.set, Option.map_some, Option.some.injEq, exists_eq_left', boxH, cellsV]
  have hx := Ext.alloc H [vi a.1, vi a.2, vi b.1, vi b.2]
  have hb0 := alloc_new H [vi a.1, vi a.2, vi b.1, vi b.2]
  have hbl : H.next < (H.alloc [vi a.1, vi a.2, vi b.1, vi b.2]).next := Nat.lt_succ_self _
  generalize H.alloc [vi a.1, vi a.2, vi b.1, vi b.2] = H1 at hx hb0 hbl ⊢
  have h1 := h.ext hx
  have hn1 := hx.next
  refine s_reg ?_
  simp only [o_pure, o_callN, POp.ev, Opd.ev, gv, setD, List.map, Option.some.injEq, exists_eq_left', fadV, Nat.zero_add, Nat.add_zero, (two4 hb0).1, (two4 hb0).2]
  rw [← hda, ← hdb]
  refine (faSign_ok _ s u p q fine a i H1 (Nat.le_refl _) h1 hi ha hka).use ?_
  rintro _ H2 ⟨rfl, hx2⟩ _
  have hn2 := hx2.next
  simp only [o_cont, o_callF, Opd.ev, gv, setD, List.map]
  refine (faSign_ok lim s u p q fine b i H2 (by omega) (h1.ext hx2) hi hb hkb).mono ?_
  rintro _ H3 ⟨rfl, hx3⟩
  have hm := mul_small (sgA_small (fam p q i (2 ^ fine)) a) (sgA_small (fam p q i (2 ^ fine)) b)
  have w1 : IntKind.i64.wrap (sgA (fam p q i (2 ^ fine)) a * sgA (fam p q i (2 ^ fine)) b) = sgA (fam p q i (2 ^ fine)) a * sgA (fam p q i (2 ^ fine)) b := wr_id (by omega) (by omega)
  simp only [o_cont, o_pure, o_nil, POp.ev, Opd.ev, gv, setD, List.set, Option.some.injEq, exists_eq_left', binV, ne_eq, not_true_eq_false, if_false, w1]
  refine s_ret1 ?_
  simp +decide only [p_fin_ret, resV, resOne, gv, Option.some.injEq, exists_eq_left']
  exact ⟨trivial, (hx.trans hx2).trans hx3⟩
end Go.Proofs.YtldpdjpchcoigaaGreat

/- Families, the reference: coefficients over an interval, slopes, what holds in a step; no condition beyond stated ranges. -/
namespace Go.Proofs.YtldpdjpchcoigaaGreat
open Go.Ab Ints
set_option linter.unusedSimpArgs false
set_option linter.unusedVariables false

def prt (lo hi one : Int) (j m t : Nat) : Int := if m ≤ j then linP lo hi m delta t else linP one one (m - j) (linP lo hi j delta) t
theorem prt_low (lo hi one : Int) {j m : Nat} (h : m < j) (t : Nat) : lin lo hi (prt lo hi one j m) t = prt lo hi one j (m + 1) t := by
  have e : prt lo hi one j m = linP lo hi m delta := funext fun t => by unfold prt; rw [if_pos (by omega)]
  rw [e]
  unfold prt
  rw [if_pos (by omega)]
  rfl
theorem prt_high (lo hi one : Int) {j m : Nat} (h : ¬ m < j) (t : Nat) : lin one one (prt lo hi one j m) t = prt lo hi one j (m + 1) t := by
  have e : prt lo hi one j m = linP one one (m - j) (linP lo hi j delta) := funext fun t => by
    unfold prt
    by_cases hh : m ≤ j
    · have : m = j := by omega
      subst this
      rw [if_pos hh, Nat.sub_self]
      rfl
    · rw [if_neg hh]
  rw [e]
  unfold prt
  rw [if_neg (by omega), show m + 1 - j = (m - j) + 1 by omega]
  rfl
theorem prt_end (lo hi one : Int) {j n : Nat} (h : j ≤ n) (t : Nat) : prt lo hi one j n t = bq lo hi one n j t := by
  unfold prt bq
  by_cases hh : n ≤ j
  · have : n = j := by omega
    subst this
    rw [if_pos hh, Nat.sub_self]
    rfl
  · rw [if_neg hh]
theorem prt_supp (lo hi one : Int) {j m t : Nat} (h : m < t) : prt lo hi one j m t = 0 := by
  unfold prt
  split
  · exact linP_supp delta_supp m t (by omega)
  · exact linP_supp (d := j + 1) (fun k hk => linP_supp delta_supp j k (by omega)) (m - j) t (by omega)
theorem prt_abs {lo hi one : Int} (h1 : lo.natAbs + hi.natAbs ≤ 512) (h2 : one.natAbs ≤ 256) (j m t : Nat) : (prt lo hi one j m t).natAbs ≤ 512 ^ m := by
  have key : ∀ e k, (linP lo hi e delta k).natAbs ≤ 512 ^ e := fun e k => by
    have := linP_abs (u := lo) (v := hi) delta_abs e k
    have h4 : (lo.natAbs + hi.natAbs) ^ e ≤ 512 ^ e := Nat.pow_le_pow_left h1 e
    omega
  unfold prt
  split
  · exact key m t
  · have h3 := linP_abs (u := one) (v := one) (f := linP lo hi j delta) (B := 512 ^ j) (key j) (m - j) t
    have h5 : (one.natAbs + one.natAbs) ^ (m - j) ≤ 512 ^ (m - j) := Nat.pow_le_pow_left (by omega) _
    have h6 : (512 : Nat) ^ (m - j) * 512 ^ j = 512 ^ m := by rw [← Nat.pow_add]; congr 1; omega
    have h7 : (one.natAbs + one.natAbs) ^ (m - j) * 512 ^ j ≤ 512 ^ (m - j) * 512 ^ j := Nat.mul_le_mul_right _ h5
    omega
def partL (a lo hi one : Int) (j m : Nat) : List Int := (List.range (m + 1)).map fun t => a * prt lo hi one j m t
theorem partL_len (a lo hi one : Int) (j m : Nat) : (partL a lo hi one j m).length = m + 1 := by simp [partL]
theorem partL_get (a lo hi one : Int) (j m t : Nat) : (partL a lo hi one j m).getD t 0 = a * prt lo hi one j m t := by
  by_cases h : t < m + 1
  · exact map_range_getD _ _ h
  · rw [getD_ge (by rw [partL_len]; omega), prt_supp lo hi one (by omega), Int.mul_zero]
theorem partL_zero (a lo hi one : Int) (j : Nat) : partL a lo hi one j 0 = [a] := by
  simp [partL, prt, linP, delta]
theorem partL_mul (a lo hi one u v : Int) (j m N : Nat) (hN : N = m + 2) (h : ∀ t, lin u v (prt lo hi one j m) t = prt lo hi one j (m + 1) t) : (List.range N).map (conv (partL a lo hi one j m) [u, v]) = partL a lo hi one j (m + 1) := by
  subst hN
  refine List.map_congr_left fun t _ => ?_
  rw [conv_two]
  have e : (fun k => (partL a lo hi one j m).getD k 0) = fun k => a * prt lo hi one j m k := funext fun k => partL_get _ _ _ _ _ _ _
  rw [e, lin_mul, h]
theorem partL_abs {a lo hi one : Int} {A : Nat} (ha : a.natAbs ≤ A) (h1 : lo.natAbs + hi.natAbs ≤ 512) (h2 : one.natAbs ≤ 256) (j m : Nat) : ∀ x ∈ partL a lo hi one j m, x.natAbs ≤ A * 512 ^ m := by
  intro x hx
  obtain ⟨t, _, rfl⟩ := List.mem_map.1 hx
  rw [Int.natAbs_mul]
  exact Nat.mul_le_mul ha (prt_abs h1 h2 j m t)
theorem bslice2 (H : AHeap) (x y : Int) : bsliceH H 2 [.int .i64 0, .int .i64 0] [(0, 1, .int .i64 x), (1, 1, .int .i64 y)] = some (.slice (some ⟨H.next, 0, some 0⟩) 2 2, H.alloc [.int .i64 x, .int .i64 y]) := by
  simp [bsliceH, fillV, cellsV]
/-- a number that fits -/
def Fit (a : Int × Nat) : Prop := a.2 ≤ 5 ∧ a.1.natAbs ≤ 256 ∧ ∀ k, a.2 ≤ k → k ≤ 5 → (a.1 * 2 ^ (k - a.2)).natAbs ≤ 256
theorem Fit.of_dn {l : Int} (h : l.natAbs ≤ 256) : Fit (dn l) := by
  have h1 := dn_abs l
  refine ⟨dn_K l, by omega, fun k hk h5 => ?_⟩
  have e := congrArg Int.natAbs (dn_scale hk h5)
  rw [Int.natAbs_mul] at e
  have : 1 ≤ ((2 : Int) ^ (5 - k)).natAbs := by rw [Int.natAbs_pow]; exact Nat.one_le_two_pow
  have : ((dn l).1 * 2 ^ (k - (dn l).2)).natAbs ≤ ((dn l).1 * 2 ^ (k - (dn l).2)).natAbs * ((2 : Int) ^ (5 - k)).natAbs := Nat.le_mul_of_pos_right _ this
  omega
def ovM (f : List Int) (lo hi one : Int) (n j t m : Nat) : Int := if m < t then ovN f lo hi one n (j + 1) m else ovN f lo hi one n j m
theorem ovM_set (f : List Int) (lo hi one : Int) (n j t N : Nat) (h : t < N) : ((List.range N).map (ovM f lo hi one n j t)).set t (ovN f lo hi one n (j + 1) t) = (List.range N).map (ovM f lo hi one n j (t + 1)) := by
  have e : ovN f lo hi one n (j + 1) t = ovM f lo hi one n j (t + 1) t := by unfold ovM; rw [if_pos (by omega)]
  rw [e]
  exact set_map_range _ _ h fun m _ hne => by
    unfold ovM
    by_cases hh : m < t
    · rw [if_pos hh, if_pos (by omega)]
    · rw [if_neg hh, if_neg (by omega)]
theorem deOver_ok (lim : Nat) (s : Value) (f : List Int) (a b : Int × Nat) (H : AHeap) (hl : lim ≤ H.next) (hs : SlI H s f) (hn : f.length = 5) (hA : ∀ x ∈ f, x.natAbs ≤ 160000) (ha : Fit a) (hb : Fit b) :
    ACalls Tryz.prog lim n_spec_deOver [s, tv ⟨a.1, a.2, b.1, b.2⟩] H fun v H' => (∃ c, H.next ≤ c ∧ c < H'.next ∧ VecI H' c v (over f (a.1 * 2 ^ (max a.2 b.2 - a.2)) (b.1 * 2 ^ (max a.2 b.2 - b.2)) (2 ^ max a.2 b.2))) ∧ Ext H H' := by
  obtain ⟨ha1, ha2, ha3⟩ := ha
  obtain ⟨hb1, hb2, hb3⟩ := hb
  refine is_spec_deOver.go rfl ?_
  unfold c_spec_deOver tv
  refine s_reg ?_
  simp only [o_pure, o_eff, o_nil, POp.ev, Opd.ev, EOp.ev, env0, gu, gv, setD, List.set, Option.map_some, Option.some.injEq, exists_eq_left', boxH, cellsV]
  have hx := Ext.alloc H [vi a.1, vi a.2, vi b.1, vi b.2]
  have hb0 := alloc_new H [vi a.1, vi a.2, vi b.1, vi b.2]
  have hbl : H.next < (H.alloc [vi a.1, vi a.2, vi b.1, vi b.2]).next := Nat.lt_succ_self _
  generalize H.alloc [vi a.1, vi a.2, vi b.1, vi b.2] = H1 at hx hb0 hbl ⊢
  generalize hqe : H.next = q0 at *
  have hn1 := hx.next
  refine s_reg ?_
  simp only [o_pure, o_callF, POp.ev, Opd.ev, gv, setD, List.map, Option.some.injEq, exists_eq_left', load1V, fadV, List.getElem?_cons_zero, List.getElem?_cons_succ, Nat.zero_add, Nat.add_zero, Nat.reduceAdd, cell_blk hb0]
  refine (l1Most_ok _ _ _ _).eq ?_
  have hk : (if (a.2 : Int) > (b.2 : Int) then (a.2 : Int) else (b.2 : Int)) = ((max a.2 b.2 : Nat) : Int) := by split <;> omega
  have hka : a.2 ≤ max a.2 b.2 := Nat.le_max_left _ _
  have hkb : b.2 ≤ max a.2 b.2 := Nat.le_max_right _ _
  have hk5 : max a.2 b.2 ≤ 5 := Nat.max_le.2 ⟨ha1, hb1⟩
  rw [hk]
  have e1 := ha3 _ hka hk5
  have e2 := hb3 _ hkb hk5
  generalize max a.2 b.2 = k at hka hkb hk5 e1 e2 ⊢
  simp only [o_cont, o_pure, o_nil, POp.ev, Opd.ev, gv, setD, List.set, Option.some.injEq, exists_eq_left']
  refine s_reg ?_
  simp only [o_pure, o_callF, POp.ev, Opd.ev, gv, setD, List.map, Option.some.injEq, exists_eq_left', fadV, Nat.add_zero, (two4 hb0).1]
  refine (dyAt2_ok lim a.1 a.2 k H1 (by omega) hka (by omega) (by omega)).mono ?_
  rintro _ H2 ⟨rfl, hx2⟩
  have hn2 := hx2.next
  replace hb0 := (hx2.blk _ hbl).trans hb0
  simp only [o_cont, o_pure, o_nil, POp.ev, Opd.ev, gv, setD, List.set, Option.some.injEq, exists_eq_left', extV, List.getElem?_toArray, List.getElem?_cons_zero, List.getElem?_cons_succ]
  refine s_reg ?_
  simp only [o_pure, o_callF, POp.ev, Opd.ev, gv, setD, List.map, Option.some.injEq, exists_eq_left', fadV, Nat.zero_add, (two4 hb0).2]
  refine (dyAt2_ok lim b.1 b.2 k H2 (by omega) hkb (by omega) (by omega)).mono ?_
  rintro _ H3 ⟨rfl, hx3⟩
  have hn3 := hx3.next
  simp only [o_cont, o_pure, o_nil, POp.ev, Opd.ev, gv, setD, List.set, Option.some.injEq, exists_eq_left', extV, List.getElem?_toArray, List.getElem?_cons_zero, List.getElem?_cons_succ]
  have hx03 := (hx.trans hx2).trans hx3
  have p1 := pow_le2 hk5
  have p2 := pow_pos2 k
  have p3 : (2 : Int) ^ 5 = 32 := by decide
  generalize a.1 * 2 ^ (k - a.2) = lo at e1 ⊢
  generalize b.1 * 2 ^ (k - b.2) = hi at e2 ⊢
  have ho : ((2 : Int) ^ k).natAbs ≤ 256 := by omega
  have hs3 := SlI.ext hs hx03
  have d4 : IntKind.i64.wrap ((f.length : Int) - 1) = ((4 : Nat) : Int) := by rw [hn]; decide
  refine s_reg ?_
  simp only [o_pure, o_nil, POp.ev, Opd.ev, gv, setD, List.set, Option.some.injEq, exists_eq_left', binV, ne_eq, not_true_eq_false, if_false, hs3.lenV, d4]
  have hmk : mksliceH H3 8 [.int .i64 0] (.int .i64 ((5 : Nat) : Int)) (.int .i64 ((5 : Nat) : Int)) = some (.slice (some ⟨H3.next, 0, some 0⟩) 5 5, H3.alloc (List.replicate 5 (.int .i64 0))) := mk_ints H3 5 (by omega)
  refine s_reg ?_
  simp only [o_pure, o_eff, o_nil, POp.ev, Opd.ev, EOp.ev, gv, setD, List.set, Option.some.injEq, exists_eq_left', binV, ne_eq, not_true_eq_false, if_false, add1 (i := 4) (by omega), hmk]
  have hv := VecI.mk' H3 5
  have hx4 := Ext.alloc H3 (List.replicate 5 (Value.int .i64 0))
  have hbl4 : H3.next < (H3.alloc (List.replicate 5 (Value.int .i64 0))).next := Nat.lt_succ_self _
  have e0 : List.replicate 5 (0 : Int) = (List.range 5).map (ovN f lo hi (2 ^ k) 4 0) := rfl
  rw [e0] at hv
  generalize H3.alloc (List.replicate 5 (Value.int .i64 0)) = H4 at hv hx4 hbl4 ⊢
  generalize (Value.slice (some ⟨H3.next, 0, some 0⟩) 5 5) = v at hv ⊢
  generalize hre : H3.next = r at *
  have hx := hx03.trans hx4
  clear hx4 hx03 hx2 hx3 hb0
  refine s_assoc (s_reg ?_)
  simp only [o_pure, o_nil, POp.ev, Opd.ev, gv, setD, List.set, Option.some.injEq, exists_eq_left', hs3.lenV]
  refine s_block ?_
  refine s_loop1 (fun w e' H' => ∃ (j : Nat) (x9 x10 x11 x12 x13 x14 x18 x19 x20 : Value), j + w = f.length ∧ VecI H' r v ((List.range 5).map (ovN f lo hi (2 ^ k) 4 j)) ∧ r < H'.next ∧ Ext H H' ∧ e' = [s, .agg #[vi a.1, vi a.2, vi b.1, vi b.2], .pointer (some ⟨q0, 0, none⟩), .slice none 0 0, .int .i64 (k : Int), .int .i64 lo, .int .i64 hi, .int .i64 ((4 : Nat) : Int), v, x9, x10, x11, x12, x13, x14, s, .int .i64 f.length, .int .i64 j, x18, x19, x20]) f.length ⟨0, _, _, _, _, _, _, _, _, _, by omega, hv, hbl4, hx, rfl⟩ ?_
  clear hv hx hbl4
  rintro w e' G ⟨j, x9, x10, x11, x12, x13, x14, x18, x19, x20, hjw, hv, hbG, hx, rfl⟩
  refine s_test ?_
  simp only [o_pure, o_nil, POp.ev, Opd.ev, gv, setD, Option.some.injEq, exists_eq_left', binV, ne_eq, not_true_eq_false, if_false]
  refine Test.split (fun hlt => ?_) (fun hlt => ?_)
  · have hlj : j < f.length := by simpa using hlt
    obtain ⟨bb, o, g1, g2, g3⟩ := (SlI.ext hs hx).get hlj
    have hab := hA _ (List.getElem_mem hlj)
    refine s_skip1 ?_
    simp +decide only [p_seq_normal]
    refine s_block ?_
    refine s_reg ?_
    simp only [o_pure, o_nil, POp.ev, Opd.ev, gv, setD, List.set, Option.some.injEq, exists_eq_left', load1V, g1, g3]
    refine s_reg ?_
    simp only [o_pure, o_eff, o_nil, POp.ev, Opd.ev, EOp.ev, gv, setD, List.set, List.map, Option.some.injEq, exists_eq_left', bslice1]
    have hp := Vec.lit (H := G) (n := 1) (sz := 1) (cells := [Value.int .i64 f[j]]) rfl
    have hp1 : VecI (G.alloc [Value.int .i64 f[j]]) G.next (.slice (some ⟨G.next, 0, some 0⟩) 1 1) (partL f[j] lo hi (2 ^ k) j 0) := by rw [partL_zero]; exact hp
    have hrG : r < G.next := hbG
    have hxg := Ext.alloc G [Value.int .i64 f[j]]
    replace hv := Vec.ext hv hxg
    replace hx := hx.trans hxg
    have hbG1 : r < (G.alloc [Value.int .i64 f[j]]).next := by have := hxg.next; omega
    clear hp g1 g2 g3
    generalize G.alloc [Value.int .i64 f[j]] = G1 at hp1 hv hx hbG1 ⊢
    generalize (Value.slice (some ⟨G.next, 0, some 0⟩) 1 1) = pv at hp1 ⊢
    clear hxg
    refine s_assoc (s_reg ?_)
    simp only [o_pure, o_nil, POp.ev, Opd.ev, setD, List.set, Option.some.injEq, exists_eq_left']
    refine s_block ?_
    refine s_loop1 (fun w e' H' => ∃ (m c : Nat) (pv : Value), m + w = 4 ∧ r < c ∧ VecI H' c pv (partL f[j] lo hi (2 ^ k) j m) ∧ VecI H' r v ((List.range 5).map (ovN f lo hi (2 ^ k) 4 j)) ∧ r < H'.next ∧ Ext H H' ∧ e' = [s, .agg #[vi a.1, vi a.2, vi b.1, vi b.2], .pointer (some ⟨q0, 0, none⟩), .slice none 0 0, .int .i64 (k : Int), .int .i64 lo, .int .i64 hi, .int .i64 ((4 : Nat) : Int), v, .int .i64 j, .int .i64 f[j], pv, .int .i64 m, x13, x14, s, .int .i64 f.length, .int .i64 j, x18, x19, x20]) 4 ⟨0, G.next, pv, by omega, hrG, hp1, hv, hbG1, hx, rfl⟩ ?_
    clear hp1 hv hx hbG1
    rintro w2 e' G2 ⟨m, c0, pv, hm, hrc, hp, hv, hbG, hx, rfl⟩
    refine s_test ?_
    simp only [o_pure, o_nil, POp.ev, Opd.ev, gv, setD, Option.some.injEq, exists_eq_left', binV, ne_eq, not_true_eq_false, if_false]
    have one : ∀ (u x : Int) (G3 : AHeap), Ext G2 G3 → u.natAbs ≤ 256 → x.natAbs ≤ 256 → m < 4 → (∀ t, lin u x (prt lo hi (2 ^ k) j m) t = prt lo hi (2 ^ k) j (m + 1) t) → ∀ (w : Value), SlI G3 w [u, x] → ACalls Tryz.prog lim n_spec_sgProduct [pv, w] G3 fun y G4 => (∃ c, r < c ∧ VecI G4 c y (partL f[j] lo hi (2 ^ k) j (m + 1))) ∧ Ext G2 G4 := by
      intro u x G3 h3 hu hxx hm4 hst w hw
      have hn3 := h3.next
      have hnx := hx.next
      have hpl := partL_len f[j] lo hi (2 ^ k) j m
      refine (sgProduct_ok lim pv w (partL f[j] lo hi (2 ^ k) j m) [u, x] (160000 * 512 ^ m) 256 G3 (by omega) (SlI.ext hp.sl h3) hw (by intro e; rw [e] at hpl; simp at hpl) (by simp) (by omega) (by simp) (partL_abs hab (by omega) ho j m) (by intro y hy; simp at hy; rcases hy with rfl | rfl <;> assumption) ?_).mono ?_
      · rw [hpl]
        have h5 : 512 ^ m ≤ 512 ^ 3 := Nat.pow_le_pow_right (by decide) (by omega)
        have h6 : (m + 1) * (160000 * 512 ^ m * 256) ≤ 4 * (160000 * 512 ^ 3 * 256) := Nat.mul_le_mul (by omega) (Nat.mul_le_mul_right _ (Nat.mul_le_mul_left _ h5))
        omega
      · rintro y G4 ⟨⟨c, c1, c2, c3⟩, hx4⟩
        rw [hpl, partL_mul f[j] lo hi (2 ^ k) u x j m (m + 1 + [u, x].length - 1) (by simp) hst] at c3
        exact ⟨⟨c, by omega, c3⟩, h3.trans hx4⟩
    refine Test.split (fun hlt => ?_) (fun hlt => ?_)
    · have hm4 : m < 4 := by have := of_decide_eq_true hlt; omega
      refine s_skip1 ?_
      simp +decide only [p_seq_normal]
      refine s_cut (fun e' H' => ∃ (c : Nat) (pv : Value), r < c ∧ VecI H' c pv (partL f[j] lo hi (2 ^ k) j (m + 1)) ∧ Ext G2 H' ∧ e' = [s, .agg #[vi a.1, vi a.2, vi b.1, vi b.2], .pointer (some ⟨q0, 0, none⟩), .slice none 0 0, .int .i64 (k : Int), .int .i64 lo, .int .i64 hi, .int .i64 ((4 : Nat) : Int), v, .int .i64 j, .int .i64 f[j], pv, .int .i64 m, x13, x14, s, .int .i64 f.length, .int .i64 j, x18, x19, x20]) ?_ ?_
      · refine s_block1 ?_
        refine s_test1 ?_
        simp only [o_pure, o_nil, POp.ev, Opd.ev, gv, setD, Option.some.injEq, exists_eq_left', binV, ne_eq, not_true_eq_false, if_false]
        refine Test.split (fun hh => ?_) (fun hh => ?_)
        · have hmj : m < j := by simpa using hh
          refine s_reg1 ?_
          simp only [o_pure, o_eff, o_callF, POp.ev, Opd.ev, EOp.ev, gv, setD, List.map, Option.some.injEq, exists_eq_left', bslice2]
          have hw := Vec.lit (H := G2) (n := 2) (sz := 1) (cells := [Value.int .i64 lo, .int .i64 hi]) rfl
          refine (one lo hi _ (Ext.alloc _ _) e1 e2 hm4 (prt_low lo hi (2 ^ k) hmj) _ hw.sl).mono ?_
          rintro y G4 ⟨⟨cc, hcc, hy⟩, hxy⟩
          simp only [o_cont, o_pure, o_nil, POp.ev, Opd.ev, gv, setD, List.set, Option.some.injEq, exists_eq_left']
          simp +decide only [p_seq_normal, p_block_normal]
          exact ⟨cc, y, hcc, hy, hxy, rfl⟩
        · have hmj : ¬ m < j := by simpa using hh
          refine s_reg1 ?_
          simp only [o_pure, o_callF, POp.ev, Opd.ev, gv, setD, List.map, Option.some.injEq, exists_eq_left']
          refine (Ints.power_ok _ k _ (by omega)).mono ?_
          rintro _ HH ⟨rfl, hh⟩
          subst HH
          simp only [o_cont, o_pure, o_callF, POp.ev, Opd.ev, gv, setD, List.map, Option.some.injEq, exists_eq_left']
          refine (Ints.power_ok _ k _ (by omega)).mono ?_
          rintro _ HH ⟨rfl, hh⟩
          subst HH
          simp only [o_cont, o_eff, o_callF, Opd.ev, EOp.ev, gv, setD, List.map, Option.some.injEq, exists_eq_left', bslice2]
          have hw := Vec.lit (H := G2) (n := 2) (sz := 1) (cells := [Value.int .i64 (2 ^ k), .int .i64 (2 ^ k)]) rfl
          refine (one (2 ^ k) (2 ^ k) _ (Ext.alloc _ _) ho ho hm4 (prt_high lo hi (2 ^ k) hmj) _ hw.sl).mono ?_
          rintro y G4 ⟨⟨cc, hcc, hy⟩, hxy⟩
          simp only [o_cont, o_pure, o_nil, POp.ev, Opd.ev, gv, setD, List.set, Option.some.injEq, exists_eq_left']
          simp +decide only [p_seq_normal, p_block_normal]
          exact ⟨cc, y, hcc, hy, hxy, rfl⟩
      · rintro e' G3 ⟨cc, pv', hcc, hp', hx', rfl⟩
        refine s_reg1 ?_
        simp only [o_pure, o_nil, POp.ev, Opd.ev, gv, setD, List.set, Option.some.injEq, exists_eq_left', binV, ne_eq, not_true_eq_false, if_false, add1 (i := m) (by omega)]
        simp +decide only [p_seq_normal]
        have hn' := hx'.next
        exact Round.mk (w2 - 1) (by omega) ⟨m + 1, cc, pv', by omega, hcc, hp', Vec.ext hv hx', by omega, hx.trans hx', rfl⟩
    · have hm4 : m = 4 := by have := of_decide_eq_false hlt; omega
      subst hm4
      clear one
      refine s_exit1 ?_
      simp +decide only [p_seq_normal, p_seq_exit, p_block_exit, reduceIte]
      have hpl := partL_len f[j] lo hi (2 ^ k) j 4
      refine s_reg ?_
      simp only [o_pure, o_nil, POp.ev, Opd.ev, gv, setD, List.set, Option.some.injEq, exists_eq_left', Vec.lenV hp, hpl]
      refine s_block1 ?_
      have em : (List.range 5).map (ovN f lo hi (2 ^ k) 4 j) = (List.range 5).map (ovM f lo hi (2 ^ k) 4 j 0) := List.map_congr_left fun t _ => by unfold ovM; rw [if_neg (by omega)]
      rw [em] at hv
      refine s_loop1 (fun w e' H' => ∃ (t : Nat) (x13 x14 : Value), t + w = 5 ∧ VecI H' c0 pv (partL f[j] lo hi (2 ^ k) j 4) ∧ VecI H' r v ((List.range 5).map (ovM f lo hi (2 ^ k) 4 j t)) ∧ r < H'.next ∧ Ext H H' ∧ Chg r G2 H' ∧ e' = [s, .agg #[vi a.1, vi a.2, vi b.1, vi b.2], .pointer (some ⟨q0, 0, none⟩), .slice none 0 0, .int .i64 (k : Int), .int .i64 lo, .int .i64 hi, .int .i64 ((4 : Nat) : Int), v, .int .i64 j, .int .i64 f[j], pv, .int .i64 ((4 : Nat) : Int), x13, x14, s, .int .i64 f.length, .int .i64 j, pv, .int .i64 ((4 + 1 : Nat) : Int), .int .i64 t]) 5 ⟨0, _, _, by omega, hp, hv, hbG, hx, Chg.refl _ _, rfl⟩ ?_
      clear hv hx hbG hp
      rintro w3 e' G3 ⟨t, x13, x14, ht, hp, hv, hbG, hx, hc, rfl⟩
      refine s_test ?_
      simp only [o_pure, o_nil, POp.ev, Opd.ev, gv, setD, Option.some.injEq, exists_eq_left', binV, ne_eq, not_true_eq_false, if_false]
      refine Test.split (fun hlt => ?_) (fun hlt => ?_)
      · have ht5 : t < 5 := by have := of_decide_eq_true hlt; omega
        obtain ⟨b2, o2, g1, g2, g3⟩ := SlI.get hp.sl (i := t) (by omega)
        have ev : (partL f[j] lo hi (2 ^ k) j 4)[t]'(by omega) = f.getD j 0 * bq lo hi (2 ^ k) 4 j t := by
          rw [← getD_lt, partL_get, prt_end lo hi (2 ^ k) (by omega), getD_lt hlj]
        rw [ev] at g3
        obtain ⟨a1, a2⟩ := VecI.at hv (i := t) (by simp; omega)
        rw [map_range_getD 5 _ ht5] at a2
        have eo : ovM f lo hi (2 ^ k) 4 j t t = ovN f lo hi (2 ^ k) 4 j t := by unfold ovM; rw [if_neg (by omega)]
        rw [eo] at a2
        obtain ⟨cs, c1, c2⟩ := VecI.put (lim := lim) hv (by omega) (i := t) (by simp; omega) (ovN f lo hi (2 ^ k) 4 (j + 1) t)
        rw [ovM_set f lo hi (2 ^ k) 4 j t 5 ht5] at c2
        have hb := ovN_abs (n := 4) (lo := lo) (hi := hi) (one := 2 ^ k) (by omega) ho hA t (j + 1) (by omega)
        have hb5 : (j + 1) * (160000 * 512 ^ 4) ≤ 5 * (160000 * 512 ^ 4) := Nat.mul_le_mul_right _ (by omega)
        have w4 : IntKind.i64.wrap (ovN f lo hi (2 ^ k) 4 j t + f.getD j 0 * bq lo hi (2 ^ k) 4 j t) = ovN f lo hi (2 ^ k) 4 (j + 1) t := wr_id (by show -9223372036854775808 ≤ ovN f lo hi (2 ^ k) 4 (j + 1) t; omega) (by show ovN f lo hi (2 ^ k) 4 (j + 1) t ≤ 9223372036854775807; omega)
        refine s_skip1 ?_
        simp +decide only [p_seq_normal]
        refine s_block ?_
        refine s_reg ?_
        simp only [o_pure, o_nil, POp.ev, Opd.ev, gv, setD, List.set, Option.some.injEq, exists_eq_left', load1V, g1, g3]
        refine s_reg1 ?_
        simp only [o_pure, o_eff, o_nil, POp.ev, Opd.ev, EOp.ev, gv, setD, Option.some.injEq, exists_eq_left', binV, load1V, ne_eq, not_true_eq_false, if_false, a1, a2, w4, c1]
        simp +decide only [p_seq_normal, p_block_normal]
        refine s_reg1 ?_
        simp only [o_pure, o_nil, POp.ev, Opd.ev, gv, setD, List.set, Option.some.injEq, exists_eq_left', binV, ne_eq, not_true_eq_false, if_false, add1 (i := t) (by omega)]
        simp +decide only [p_seq_normal]
        exact Round.mk (w3 - 1) (by omega) ⟨t + 1, _, _, by omega, Vec.chg hp (Chg.put _ _ _) (by omega), c2, hbG, Chg.ext hx (Chg.put _ _ _) (by omega), hc.trans (Chg.put _ _ _), rfl⟩
      · have ht5 : t = 5 := by have := of_decide_eq_false hlt; omega
        subst ht5
        refine s_exit1 ?_
        simp +decide only [p_seq_normal, p_seq_exit, p_block_normal, p_block_exit, reduceIte]
        refine s_reg1 ?_
        simp only [o_pure, o_nil, POp.ev, Opd.ev, gv, setD, List.set, Option.some.injEq, exists_eq_left', binV, ne_eq, not_true_eq_false, if_false, add1 (i := j) (by omega)]
        simp +decide only [p_seq_normal]
        have em2 : (List.range 5).map (ovM f lo hi (2 ^ k) 4 j 5) = (List.range 5).map (ovN f lo hi (2 ^ k) 4 (j + 1)) := List.map_congr_left fun t ht => by unfold ovM; rw [if_pos (by simpa using ht)]
        rw [em2] at hv
        exact Round.mk (w - 1) (by omega) ⟨j + 1, _, _, _, _, _, _, _, _, _, by omega, hv, hbG, hx, rfl⟩
  · have hge : j = f.length := by simp at hlt; omega
    subst hge
    refine s_exit1 ?_
    simp +decide only [p_seq_normal, p_seq_exit, p_block_exit, reduceIte]
    refine s_reg ?_
    simp only [o_pure, o_nil, POp.ev, Opd.ev, gv, setD, List.set, Option.some.injEq, exists_eq_left']
    refine s_ret1 ?_
    simp +decide only [p_fin_ret, resV, resOne, gv, Option.some.injEq, exists_eq_left']
    have eo : over f lo hi (2 ^ k) = (List.range 5).map (ovN f lo hi (2 ^ k) 4 f.length) := by unfold over; rw [hn]
    rw [eo]
    exact ⟨⟨r, by omega, hbG, hv⟩, hx⟩
end Go.Proofs.YtldpdjpchcoigaaGreat

/- Families, the reference: slopes, what holds in a step; no condition beyond stated ranges. -/
namespace Go.Proofs.YtldpdjpchcoigaaGreat
open Go.Ab Ints
set_option linter.unusedSimpArgs false
set_option linter.unusedVariables false

theorem derL_six {f : List Int} (h : f.length = 6) : derL f f.length = der f := by rw [h]; rfl
theorem der_len (f : List Int) : (der f).length = 5 := by simp [der]
/-- an interval's ends, as it is handed on -/
def iv (a b : Int × Nat) : Tm := ⟨a.1, a.2, b.1, b.2⟩
theorem ovr_len (f : List Int) (a b : Int × Nat) : (ovr f a b).length = 5 := by unfold ovr; rw [over_len, der_len]
theorem faSlope_ok (lim : Nat) (s u : Value) (p q : List Int) (fine : Nat) (a b : Int × Nat) (i : Nat) (H : AHeap) (hl : lim ≤ H.next) (h : Fam H s u p q fine) (hi : i ≤ 15) (ha : Fit a) (hb : Fit b) :
    ACalls Tryz.prog lim n_spec_faSlope [s, u, tv (iv a b), .int .i64 i, .int .i64 (fine : Int)] H fun v H' => v = .int .i64 (slopeA (fam p q i (2 ^ fine)) (fam p q (i + 1 : Nat) (2 ^ fine)) a b) ∧ Ext H H' := by
  refine is_spec_faSlope.go rfl ?_
  have hda : tv (iv a b) = .agg #[vi a.1, vi a.2, vi b.1, vi b.2] := rfl
  unfold c_spec_faSlope
  rw [hda]
  refine s_reg ?_
  simp only [o_pure, o_eff, o_nil, POp.ev, Opd.ev, EOp.ev, env0, gu, gv, setD, List.set, Option.map_some, Option.some.injEq, exists_eq_left', boxH, cellsV]
  have hx := Ext.alloc H [vi a.1, vi a.2, vi b.1, vi b.2]
  have hb0 := alloc_new H [vi a.1, vi a.2, vi b.1, vi b.2]
  generalize H.alloc [vi a.1, vi a.2, vi b.1, vi b.2] = H1 at hx hb0 ⊢
  have hn1 := hx.next
  refine s_reg ?_
  simp only [o_pure, o_callN, POp.ev, Opd.ev, gv, setD, List.map, Option.some.injEq, exists_eq_left', binV, ne_eq, not_true_eq_false, if_false, load4 hb0, add1 (i := i) (by omega)]
  rw [← hda]
  have part : ∀ (j : Nat) (G : AHeap) (K : Value → AHeap → Prop), j ≤ 16 → Ext H G → (∀ v G', (∃ c, G.next ≤ c ∧ VecI G' c v (fam p q j (2 ^ fine))) ∧ Ext G G' → K v G') → ACalls Tryz.prog G.next n_spec_faAt [s, u, .int .i64 (j : Int), .int .i64 (fine : Int)] G K := by
    intro j G K hj hG hK
    have hh := h.ext hG
    refine (faAt_ok _ s u p q j fine G (Nat.le_refl _) hh.hs hh.hu hh.hn hh.hn2 hh.hA hh.hB hh.hf (by omega)).mono ?_
    rintro v G' ⟨⟨c, c1, c2, c3⟩, hx'⟩
    exact hK v G' ⟨⟨c, c1, c3⟩, hx'⟩
  have fb : ∀ j : Nat, j ≤ 16 → ∀ x ∈ fam p q j (2 ^ fine), x.natAbs ≤ 32000 := fun j hj => h.abs (by omega)
  refine part i H1 _ (by omega) hx ?_
  rintro f1 H2 ⟨⟨c1, hc1, hf1⟩, hx2⟩
  simp only [o_cont, o_callN, Opd.ev, gv, setD, List.map]
  refine (sgDerive_ok _ f1 _ 32000 H2 (Nat.le_refl _) hf1.sl (by rw [fam_len]; omega) (fb i (by omega)) (by omega)).use ?_
  rintro d1 H3 ⟨⟨c2, hc2, hd1⟩, hx3⟩ _
  rw [derL_six (fam_len p q i (2 ^ fine))] at hd1
  simp only [o_cont, o_callN, Opd.ev, gv, setD, List.map]
  refine (deOver_ok _ d1 _ a b H3 (Nat.le_refl _) hd1.sl (der_len _) (fun x hx => der_abs (fb i (by omega)) x hx) ha hb).use ?_
  rintro o1 H4 ⟨⟨c3, hc3, hc3', ho1⟩, hx4⟩ _
  have x04 := ((hx.trans hx2).trans hx3).trans hx4
  simp only [o_cont, o_callN, Opd.ev, gv, setD, List.map]
  refine part (i + 1) H4 _ (by omega) x04 ?_
  rintro f2 H5 ⟨⟨c4, hc4, hf2⟩, hx5⟩
  simp only [o_cont, o_callN, Opd.ev, gv, setD, List.map]
  refine (sgDerive_ok _ f2 _ 32000 H5 (Nat.le_refl _) hf2.sl (by rw [fam_len]; omega) (fb (i + 1) (by omega)) (by omega)).use ?_
  rintro d2 H6 ⟨⟨c5, hc5, hd2⟩, hx6⟩ _
  rw [derL_six (fam_len p q (i + 1 : Nat) (2 ^ fine))] at hd2
  have n06 := (x04.trans (hx5.trans hx6)).next
  simp only [o_cont, o_callF, Opd.ev, gv, setD, List.map]
  refine (deOver_ok lim d2 _ a b H6 (by omega) hd2.sl (der_len _) (fun x hx => der_abs (fb (i + 1) (by omega)) x hx) ha hb).mono ?_
  rintro o2 H7 ⟨⟨c6, hc6, hc6', ho2⟩, hx7⟩
  have n2 := hx2.next
  have n3 := hx3.next
  have hox := Vec.ext ho1 ((hx5.trans hx6).trans hx7)
  have l1 := ovr_len (fam p q i (2 ^ fine)) a b
  have l2 := ovr_len (fam p q (i + 1 : Nat) (2 ^ fine)) a b
  unfold ovr at l1 l2
  obtain ⟨v', H8, b', g1, g2, g3, g4⟩ := VecI.appendL (lim := lim) hox (by omega) ho2.sl (by rw [over_len, over_len, der_len, der_len]; omega)
  simp only [o_cont, o_pure, o_eff, o_nil, POp.ev, Opd.ev, EOp.ev, gv, setD, List.set, Option.some.injEq, exists_eq_left', g1]
  refine s_reg ?_
  simp only [o_pure, o_callF, POp.ev, Opd.ev, gv, setD, List.map, Option.some.injEq, exists_eq_left']
  refine (beSign_ok _ v' _ H8 g2.sl (fun e => by have := congrArg List.length e; rw [List.length_append, over_len, over_len, der_len, der_len] at this; cases this) (by rw [List.length_append, over_len, over_len, der_len, der_len]; omega)).eq ?_
  simp only [o_cont, o_pure, o_nil, POp.ev, Opd.ev, gv, setD, List.set, Option.some.injEq, exists_eq_left']
  refine s_ret1 ?_
  simp +decide only [p_fin_ret, resV, resOne, gv, Option.some.injEq, exists_eq_left']
  exact ⟨rfl, Chg.ext (x04.trans ((hx5.trans hx6).trans hx7)) g4 (by omega)⟩
theorem faHolds_ok (lim : Nat) (s u : Value) (p q : List Int) (fine : Nat) (a b : Int × Nat) (i : Nat) (H : AHeap) (hl : lim ≤ H.next) (h : Fam H s u p q fine) (hi : i ≤ 15) (ha : Fit a) (hb : Fit b) :
    ACalls Tryz.prog lim n_spec_faHolds [s, u, tv (iv a b), .int .i64 i, .int .i64 (fine : Int)] H fun v H' => v = .bool (holdA (fam p q i (2 ^ fine)) (fam p q (i + 1 : Nat) (2 ^ fine)) a b) ∧ Ext H H' := by
  refine is_spec_faHolds.go rfl ?_
  have hda : tv (iv a b) = .agg #[vi a.1, vi a.2, vi b.1, vi b.2] := rfl
  have ha' : dV a = .agg #[.int .i64 a.1, .int .i64 (a.2 : Int)] := rfl
  have hb' : dV b = .agg #[.int .i64 b.1, .int .i64 (b.2 : Int)] := rfl
  unfold c_spec_faHolds
  rw [hda]
  refine s_reg ?_
  simp only [o_pure, o_eff, o_nil, POp.ev, Opd.ev, EOp.ev, env0, gu, gv, setD, List.set, Option.map_some, Option.some.injEq, exists_eq_left', boxH, cellsV]
  have hx := Ext.alloc H [vi a.1, vi a.2, vi b.1, vi b.2]
  have hb0 := alloc_new H [vi a.1, vi a.2, vi b.1, vi b.2]
  have hbl : H.next < (H.alloc [vi a.1, vi a.2, vi b.1, vi b.2]).next := Nat.lt_succ_self _
  generalize H.alloc [vi a.1, vi a.2, vi b.1, vi b.2] = H1 at hx hb0 hbl ⊢
  have hn1 := hx.next
  refine s_reg ?_
  simp only [o_pure, o_callN, POp.ev, Opd.ev, gv, setD, List.map, Option.some.injEq, exists_eq_left', binV, fadV, ne_eq, not_true_eq_false, if_false, Nat.zero_add, Nat.add_zero, (two4 hb0).1, (two4 hb0).2, add1 (i := i) (by omega)]
  rw [← ha', ← hb']
  refine (faBoth_ok _ s u p q fine a i (i + 1 : Nat) H1 (Nat.le_refl _) (h.ext hx) (by omega) (by omega) ha.2.1 ha.1).use ?_
  rintro _ H2 ⟨rfl, hx2⟩ _
  have hn2 := hx2.next
  simp only [o_cont, o_callF, Opd.ev, gv, setD, List.map]
  refine (faBoth_ok lim s u p q fine b i (i + 1 : Nat) H2 (by omega) (h.ext (hx.trans hx2)) (by omega) (by omega) hb.2.1 hb.1).mono ?_
  rintro _ H3 ⟨rfl, hx3⟩
  have hn3 := hx3.next
  have hm := mul_small (bothA_small (fam p q i (2 ^ fine)) (fam p q (i + 1 : Nat) (2 ^ fine)) a) (bothA_small (fam p q i (2 ^ fine)) (fam p q (i + 1 : Nat) (2 ^ fine)) b)
  have hx03 := (hx.trans hx2).trans hx3
  replace hb0 := ((hx2.trans hx3).blk _ hbl).trans hb0
  unfold holdA
  simp only [o_cont, o_pure, o_guard, POp.ev, Opd.ev, gv, setD, Option.some.injEq, exists_eq_left', binV, ne_eq, not_true_eq_false, if_false]
  generalize bothA (fam p q i (2 ^ fine)) (fam p q (i + 1 : Nat) (2 ^ fine)) a * bothA (fam p q i (2 ^ fine)) (fam p q (i + 1 : Nat) (2 ^ fine)) b = m at hm ⊢
  have w1 : IntKind.i64.wrap m = m := wr_id (by omega) (by omega)
  cases hD : decide (m < 0)
  · simp only [o_pure, o_guard, gk_ft, o_nil, POp.ev, Opd.ev, gv, setD, List.set, Option.some.injEq, exists_eq_left', pickV, w1, hD]
    refine s_ret1 ?_
    simp +decide only [p_fin_ret, resV, resOne, gv, Option.some.injEq, exists_eq_left']
    exact ⟨by simp, hx03⟩
  · simp only [o_pure, o_callF, o_guard, gk_tt, POp.ev, Opd.ev, gv, setD, List.map, Option.some.injEq, exists_eq_left', w1, hD, load4 hb0]
    rw [← hda]
    refine (faSlope_ok lim s u p q fine a b i H3 (by omega) (h.ext hx03) hi ha hb).mono ?_
    rintro _ H4 ⟨rfl, hx4⟩
    simp only [o_cont, o_pure, o_guard, gk_tt, o_nil, POp.ev, Opd.ev, gv, setD, List.set, Option.some.injEq, exists_eq_left', pickV, binV, ne_eq, not_true_eq_false, if_false]
    refine s_ret1 ?_
    simp +decide only [p_fin_ret, resV, resOne, gv, Option.some.injEq, exists_eq_left']
    have e : ∀ x : Int, (x != 0) = decide (x ≠ 0) := fun x => by by_cases hx : x = 0 <;> simp [hx]
    exact ⟨by rw [e, Bool.true_and], hx03.trans hx4⟩
end Go.Proofs.YtldpdjpchcoigaaGreat

/- Families, the reference: the first interval that holds, narrowed intervals, tracks; no condition beyond stated ranges. -/
namespace Go.Proofs.YtldpdjpchcoigaaGreat
open Go.Ab Ints
set_option linter.unusedSimpArgs false
set_option linter.unusedVariables false

def ivX (t : Tm) : Int × Int := (t.c * 2 ^ (5 - t.x.toNat), t.y * 2 ^ (5 - t.z.toNat))
theorem ivX_T (x : Int × Int) : ivX (ivT x) = x := by
  unfold ivX ivT
  simp only [Int.toNat_natCast]
  rw [← dn_val, ← dn_val]
def findV : Option (Int × Int) → Value
  | none => .tuple #[tv zT, .bool false]
  | some y => .tuple #[tv (ivT y), .bool true]
theorem fill22 (a b c d : Int) : fillV [vi 0, vi 0, vi 0, vi 0] [(0, 2, .agg #[vi a, vi b]), (2, 2, .agg #[vi c, vi d])] = some [vi a, vi b, vi c, vi d] := by
  simp [fillV, cellsV]
theorem store4_new {lim : Nat} {H : AHeap} {p q r s x y z u : Value} (hl : lim ≤ H.next) : storeH lim (H.alloc [p, q, r, s]) 4 (.pointer (some ⟨H.next, 0, none⟩)) (.agg #[x, y, z, u]) = some (undef, H.alloc [x, y, z, u]) := by
  rw [store4 hl (alloc_new _ _), alloc_put]
theorem store2_new {lim : Nat} {H : AHeap} {p q x y : Value} (hl : lim ≤ H.next) : storeH lim (H.alloc [p, q]) 2 (.pointer (some ⟨H.next, 0, none⟩)) (.agg #[x, y]) = some (undef, H.alloc [x, y]) := by
  rw [store2 hl (alloc_new _ _), alloc_put]
theorem Rng.fit1 {x : Int × Int} (h : Rng x) (hx : x.1 < x.2) : Fit (dn x.1) := Fit.of_dn (by have := h.lo; have := h.hi; omega)
theorem Rng.fit2 {x : Int × Int} (h : Rng x) (hx : x.1 < x.2) : Fit (dn x.2) := Fit.of_dn (by have := h.lo; have := h.hi; omega)
theorem faFind_ok (lim : Nat) (s u : Value) (p q : List Int) (fine : Nat) (x : Int × Int) (i : Nat) (H : AHeap) (hl : lim ≤ H.next) (h : Fam H s u p q fine) (hi : i ≤ 15) (hr : Rng x) (hxx : x.1 < x.2) :
    ACalls Tryz.prog lim n_spec_faFind [s, u, tv (ivT x), .int .i64 i, .int .i64 (fine : Int)] H fun v H' => v = findV (find7 (fam p q i (2 ^ fine)) (fam p q (i + 1 : Nat) (2 ^ fine)) x) ∧ Ext H H' := by
  refine is_spec_faFind.go rfl ?_
  unfold c_spec_faFind
  have hxv : tv (ivT x) = .agg #[vi (dn x.1).1, vi (dn x.1).2, vi (dn x.2).1, vi (dn x.2).2] := rfl
  rw [hxv]
  refine s_reg ?_
  simp only [o_pure, o_eff, o_nil, POp.ev, Opd.ev, EOp.ev, env0, gu, gv, setD, List.set, Option.map_some, Option.some.injEq, exists_eq_left', boxH, cellsV]
  have hx1 := Ext.alloc H [vi (dn x.1).1, vi (dn x.1).2, vi (dn x.2).1, vi (dn x.2).2]
  have hb1 := alloc_new H [vi (dn x.1).1, vi (dn x.1).2, vi (dn x.2).1, vi (dn x.2).2]
  have hl1 : (H.alloc [vi (dn x.1).1, vi (dn x.1).2, vi (dn x.2).1, vi (dn x.2).2]).next = H.next + 1 := rfl
  generalize H.alloc [vi (dn x.1).1, vi (dn x.1).2, vi (dn x.2).1, vi (dn x.2).2] = H1 at hx1 hb1 hl1 ⊢
  have hx2 := Ext.alloc H1 [vi 0, vi 0, vi 0, vi 0]
  have hb2 := alloc_new H1 [vi 0, vi 0, vi 0, vi 0]
  have hl2 : (H1.alloc [vi 0, vi 0, vi 0, vi 0]).next = H1.next + 1 := rfl
  replace hb1 := (hx2.blk _ (by omega)).trans hb1
  generalize H1.alloc [vi 0, vi 0, vi 0, vi 0] = H2 at hx2 hb1 hb2 hl2 ⊢
  obtain ⟨r1, r2⟩ := hr
  have dv : ∀ l, dV (dn l) = .agg #[vi (dn l).1, vi (dn l).2] := fun l => rfl
  refine s_reg ?_
  simp only [o_pure, o_callF, POp.ev, Opd.ev, gv, setD, List.map, Option.some.injEq, exists_eq_left', fadV, Nat.add_zero, (two4 hb1).1]
  rw [← dv]
  refine (dyAt5_ok lim x.1 H2 (by omega) (by omega)).mono ?_
  rintro _ H3 ⟨rfl, hx3⟩
  replace hb1 := (hx3.blk _ (by omega)).trans hb1
  replace hb2 := (hx3.blk _ (by omega)).trans hb2
  have hn3 := hx3.next
  simp only [o_cont, o_pure, o_nil, POp.ev, Opd.ev, gv, setD, List.set, Option.some.injEq, exists_eq_left', extV, List.getElem?_toArray, List.getElem?_cons_zero, List.getElem?_cons_succ]
  refine s_reg ?_
  simp only [o_pure, o_callF, POp.ev, Opd.ev, gv, setD, List.map, Option.some.injEq, exists_eq_left', fadV, Nat.zero_add, (two4 hb1).2]
  rw [← dv]
  refine (dyAt5_ok lim x.2 H3 (by omega) (by omega)).mono ?_
  rintro _ H4 ⟨rfl, hx4⟩
  replace hb2 := (hx4.blk _ (by omega)).trans hb2
  have hn4 := hx4.next
  have x04 := ((hx1.trans hx2).trans hx3).trans hx4
  simp only [o_cont, o_pure, o_nil, POp.ev, Opd.ev, gv, setD, List.set, Option.some.injEq, exists_eq_left', extV, List.getElem?_toArray, List.getElem?_cons_zero, List.getElem?_cons_succ]
  have w256 : IntKind.i64.wrap (8 * 2 ^ 5) = 256 := by decide
  refine s_reg ?_
  simp only [o_callF, Opd.ev, List.map]
  refine (Ints.power_ok _ 5 H4 (by omega)).mono ?_
  rintro _ HH ⟨rfl, hh⟩
  subst HH
  simp only [o_cont, o_pure, o_nil, POp.ev, Opd.ev, gv, setD, List.set, Option.some.injEq, exists_eq_left', binV, ne_eq, not_true_eq_false, if_false, w256]
  clear hb1
  generalize hq0 : H.next = q0 at *
  generalize hr6 : H1.next = r6 at *
  have hb6 : r6 < H4.next := by omega
  refine s_assoc (s_reg ?_)
  simp only [o_pure, o_nil, POp.ev, Opd.ev, setD, List.set, Option.some.injEq, exists_eq_left']
  refine s_block ?_
  refine s_loop1 (fun w e' H' => ∃ (k : Nat) (x12 : Value), k + w = 7 ∧ H'.blk r6 = some [vi 0, vi 0, vi 0, vi 0] ∧ r6 < H'.next ∧ Ext H H' ∧
    find7 (fam p q i (2 ^ fine)) (fam p q (i + 1 : Nat) (2 ^ fine)) x = findN (fam p q i (2 ^ fine)) (fam p q (i + 1 : Nat) (2 ^ fine)) x w k ∧
    e' = [s, u, .agg #[vi (dn x.1).1, vi (dn x.1).2, vi (dn x.2).1, vi (dn x.2).2], .int .i64 i, .int .i64 (fine : Int), .pointer (some ⟨q0, 0, none⟩), .pointer (some ⟨r6, 0, none⟩), .bool false, .int .i64 (wid x k).1, .int .i64 (wid x k).2, .int .i64 256, .int .i64 (k : Int), x12]) 7 ⟨0, undef, by omega, hb2, hb6, x04, rfl, rfl⟩ ?_
  clear hb2 hb6 x04 hx1 hx2 hx3 hx4
  rintro w e' G ⟨k, x12, hkw, hb6, hrG, hx, hfind, rfl⟩
  have hn0 := hx.next
  refine s_test ?_
  simp only [o_pure, o_nil, POp.ev, Opd.ev, gv, setD, Option.some.injEq, exists_eq_left', binV, ne_eq, not_true_eq_false, if_false]
  refine Test.split (fun hlt => ?_) (fun hlt => ?_)
  · have hk : k ≤ 6 := by have := of_decide_eq_true hlt; omega
    obtain ⟨w', rfl⟩ : ∃ w', w = w' + 1 := ⟨w - 1, by omega⟩
    rw [findN] at hfind
    obtain ⟨⟨y1, y2⟩, y3⟩ := wid_rng ⟨r1, r2⟩ hxx k
    have hfa := Rng.fit1 ⟨y1, y2⟩ y3
    have hfb := Rng.fit2 ⟨y1, y2⟩ y3
    have hws : (wid x (k + 1)).1 = (if -256 > (wid x k).1 - 2 ^ k then -256 else (wid x k).1 - 2 ^ k) ∧ (wid x (k + 1)).2 = (if 256 < (wid x k).2 + 2 ^ k then 256 else (wid x k).2 + 2 ^ k) := ⟨rfl, rfl⟩
    have hiv : ivT (wid x k) = iv (dn (wid x k).1) (dn (wid x k).2) := rfl
    generalize wid x k = y at *
    refine s_skip1 ?_
    simp +decide only [p_seq_normal]
    refine s_block ?_
    refine s_reg ?_
    simp only [o_pure, o_callF, POp.ev, Opd.ev, gv, setD, List.map, Option.some.injEq, exists_eq_left']
    refine (bxNumber5_ok lim y.1 G (by omega) (by omega)).mono ?_
    rintro _ G1 ⟨rfl, hg1⟩
    have hn1 := hg1.next
    simp only [o_cont, o_pure, o_callF, POp.ev, Opd.ev, gv, setD, List.map, Option.some.injEq, exists_eq_left']
    refine (bxNumber5_ok lim y.2 G1 (by omega) (by omega)).mono ?_
    rintro _ G2 ⟨rfl, hg2⟩
    have hn2 := hg2.next
    simp only [o_cont, o_pure, o_eff, o_nil, POp.ev, Opd.ev, EOp.ev, gv, setD, List.set, List.map, Option.map_some, Option.some.injEq, exists_eq_left', dv, fill22, store4_new (lim := lim) (H := G2) (by omega)]
    have hg3 := Ext.alloc G2 [vi (dn y.1).1, vi (dn y.1).2, vi (dn y.2).1, vi (dn y.2).2]
    have hb12 := alloc_new G2 [vi (dn y.1).1, vi (dn y.1).2, vi (dn y.2).1, vi (dn y.2).2]
    have hl3 : (G2.alloc [vi (dn y.1).1, vi (dn y.1).2, vi (dn y.2).1, vi (dn y.2).2]).next = G2.next + 1 := rfl
    generalize G2.alloc [vi (dn y.1).1, vi (dn y.1).2, vi (dn y.2).1, vi (dn y.2).2] = G3 at hg3 hb12 hl3 ⊢
    have hxG3 := ((hx.trans hg1).trans hg2).trans hg3
    have tvy : tv (iv (dn y.1) (dn y.2)) = .agg #[vi (dn y.1).1, vi (dn y.1).2, vi (dn y.2).1, vi (dn y.2).2] := rfl
    refine s_test ?_
    simp only [o_pure, o_callF, POp.ev, Opd.ev, gv, setD, List.map, Option.some.injEq, exists_eq_left', load4 hb12]
    rw [← tvy]
    refine (faHolds_ok lim s u p q fine (dn y.1) (dn y.2) i G3 (by omega) (h.ext hxG3) hi hfa hfb).mono ?_
    rintro _ G4 ⟨rfl, hg4⟩
    have hn4 := hg4.next
    replace hb12 := (hg4.blk _ (by omega)).trans hb12
    replace hb6 := ((((hg1.trans hg2).trans hg3).trans hg4).blk _ hrG).trans hb6
    have hxG4 := hxG3.trans hg4
    simp only [o_cont, o_nil, gv, setD]
    refine Test.split (fun hh => ?_) (fun hh => ?_)
    · rw [if_pos hh] at hfind
      refine s_reg ?_
      simp only [o_pure, o_eff, o_nil, POp.ev, Opd.ev, EOp.ev, gv, setD, List.set, Option.some.injEq, exists_eq_left', load4 hb12, store4 (lim := lim) (show lim ≤ r6 by omega) hb6]
      refine s_ret1 ?_
      simp +decide only [p_seq_ret, p_block_ret, p_fin_ret, resV, resOne, resL, gv, Option.some.injEq, exists_eq_left', Option.bind_some, Option.map_some, load4 (put_same _ _ _)]
      refine ⟨?_, Chg.ext hxG4 (Chg.put _ _ _) (by omega)⟩
      rw [hfind]
      show _ = Value.tuple #[tv (ivT y), Value.bool true]
      rw [hiv]
      rfl
    · rw [if_neg (by simpa using hh)] at hfind
      refine s_skip1 ?_
      simp +decide only [p_seq_normal]
      have hp1 := pow_pos2 k
      have hp2 := pow_le2 hk
      have hp3 : (2 : Int) ^ 6 = 64 := by decide
      have wn : IntKind.i64.wrap (0 - 256) = -256 := by decide
      have w5 : IntKind.i64.wrap (y.1 - 2 ^ k) = y.1 - 2 ^ k := wr_id (by omega) (by omega)
      have w6 : IntKind.i64.wrap (y.2 + 2 ^ k) = y.2 + 2 ^ k := wr_id (by omega) (by omega)
      refine s_reg ?_
      simp only [o_pure, o_callF, POp.ev, Opd.ev, gv, setD, List.map, Option.some.injEq, exists_eq_left', unV]
      refine (Ints.power_ok _ k G4 (by omega)).mono ?_
      rintro _ HH ⟨rfl, hh⟩
      subst HH
      simp only [o_cont, o_pure, o_callF, POp.ev, Opd.ev, gv, setD, List.map, Option.some.injEq, exists_eq_left', binV, ne_eq, not_true_eq_false, if_false, wn, w5]
      refine (l1Most_ok _ _ _ _).eq ?_
      simp only [o_cont, o_pure, o_nil, POp.ev, Opd.ev, gv, setD, List.set, Option.some.injEq, exists_eq_left']
      refine s_reg1 ?_
      simp only [o_pure, o_callF, POp.ev, Opd.ev, gv, setD, List.map, Option.some.injEq, exists_eq_left']
      refine (Ints.power_ok _ k G4 (by omega)).mono ?_
      rintro _ HH ⟨rfl, hh⟩
      subst HH
      simp only [o_cont, o_pure, o_callF, POp.ev, Opd.ev, gv, setD, List.map, Option.some.injEq, exists_eq_left', binV, ne_eq, not_true_eq_false, if_false, w6]
      refine (l1Least_ok _ _ _ _).eq ?_
      simp only [o_cont, o_pure, o_nil, POp.ev, Opd.ev, gv, setD, List.set, Option.some.injEq, exists_eq_left']
      simp +decide only [p_seq_normal, p_block_normal]
      refine s_reg1 ?_
      simp only [o_pure, o_nil, POp.ev, Opd.ev, gv, setD, List.set, Option.some.injEq, exists_eq_left', binV, ne_eq, not_true_eq_false, if_false, add1 (i := k) (by omega)]
      simp +decide only [p_seq_normal]
      refine Round.mk w' (by omega) ⟨k + 1, .pointer (some ⟨G2.next, 0, none⟩), by omega, hb6, by omega, hxG4, hfind, by rw [hws.1, hws.2]⟩
  · have hk : k = 7 := by have := of_decide_eq_false hlt; omega
    obtain rfl : w = 0 := by omega
    rw [findN] at hfind
    refine s_exit1 ?_
    simp +decide only [p_seq_normal, p_seq_exit, p_block_exit, reduceIte]
    have hf4 : fillV [vi 0, vi 0, vi 0, vi 0] [] = some [vi 0, vi 0, vi 0, vi 0] := rfl
    refine s_reg ?_
    simp only [o_pure, o_eff, o_nil, POp.ev, Opd.ev, EOp.ev, gv, setD, List.set, List.map, Option.map_some, Option.some.injEq, exists_eq_left', hf4, store4 (lim := lim) (show lim ≤ r6 by omega) hb6]
    refine s_ret1 ?_
    simp +decide only [p_fin_ret, resV, resOne, resL, gv, Option.some.injEq, exists_eq_left', Option.bind_some, Option.map_some, load4 (put_same _ _ _)]
    refine ⟨?_, Chg.ext hx (Chg.put _ _ _) (by omega)⟩
    rw [hfind]
    rfl
end Go.Proofs.YtldpdjpchcoigaaGreat

/- Families, the reference: narrowed intervals; no condition beyond stated ranges. -/
namespace Go.Proofs.YtldpdjpchcoigaaGreat
open Go.Ab Ints
set_option linter.unusedSimpArgs false
set_option linter.unusedVariables false

theorem half_even {l m : Int} (h : (l + m) % 2 = 0) : dnorm (l + m) 6 = dn ((l + m) / 2) := by
  have : l + m = (l + m) / 2 * 2 := by omega
  conv => lhs; rw [this]
  exact dnorm_dbl _ 5
theorem half_odd {l m : Int} (h : (l + m) % 2 = 1) : dnorm (l + m) 6 = (l + m, 6) := dnorm_self (.inr h)
theorem faNarrow_ok (lim : Nat) (s u : Value) (p q : List Int) (fine : Nat) (x0 : Int × Int) (i : Nat) (H : AHeap) (hl : lim ≤ H.next) (h : Fam H s u p q fine) (hi : i ≤ 16) (hr : Rng x0) (hxx : x0.1 < x0.2) :
    ACalls Tryz.prog lim n_spec_faNarrow [s, u, tv (ivT x0), .int .i64 i, .int .i64 (fine : Int)] H fun v H' => v = tv (ivT (narN (fam p q i (2 ^ fine)) (x0.2 - x0.1).toNat x0)) ∧ Ext H H' := by
  refine is_spec_faNarrow.go rfl ?_
  unfold c_spec_faNarrow
  have hxv : ∀ x, tv (ivT x) = .agg #[vi (dn x.1).1, vi (dn x.1).2, vi (dn x.2).1, vi (dn x.2).2] := fun _ => rfl
  have dv : ∀ l, dV (dn l) = .agg #[vi (dn l).1, vi (dn l).2] := fun l => rfl
  have dv2 : ∀ d : Int × Nat, dV d = .agg #[vi d.1, vi d.2] := fun d => rfl
  rw [hxv x0]
  refine s_reg ?_
  simp only [o_eff, o_nil, Opd.ev, EOp.ev, env0, gu, gv, setD, List.set, Option.map_some, Option.some.injEq, exists_eq_left', boxH, cellsV]
  have hx1 := Ext.alloc H [vi (dn x0.1).1, vi (dn x0.1).2, vi (dn x0.2).1, vi (dn x0.2).2]
  have hb1 := alloc_new H [vi (dn x0.1).1, vi (dn x0.1).2, vi (dn x0.2).1, vi (dn x0.2).2]
  have hl1 : (H.alloc [vi (dn x0.1).1, vi (dn x0.1).2, vi (dn x0.2).1, vi (dn x0.2).2]).next = H.next + 1 := rfl
  generalize H.alloc [vi (dn x0.1).1, vi (dn x0.1).2, vi (dn x0.2).1, vi (dn x0.2).2] = H1 at hx1 hb1 hl1 ⊢
  have hx2 := Ext.alloc H1 [vi 0, vi 0, vi 0, vi 0]
  have hb2 := alloc_new H1 [vi 0, vi 0, vi 0, vi 0]
  have hl2 : (H1.alloc [vi 0, vi 0, vi 0, vi 0]).next = H1.next + 1 := rfl
  replace hb1 := (hx2.blk _ (by omega)).trans hb1
  generalize H1.alloc [vi 0, vi 0, vi 0, vi 0] = H2 at hx2 hb1 hb2 hl2 ⊢
  have x02 := hx1.trans hx2
  generalize hq5 : H.next = q5 at *
  generalize hr6 : H1.next = r6 at *
  have hb5 : q5 < H2.next := by omega
  have hb6 : r6 < H2.next := by omega
  refine s_block1 ?_
  refine s_loop1 (fun w e' H' => ∃ (x : Int × Int) (x7 x8 : Value), Rng x ∧ x.1 < x.2 ∧ x.2 - x.1 ≤ w ∧ narN (fam p q i (2 ^ fine)) (x0.2 - x0.1).toNat x0 = narN (fam p q i (2 ^ fine)) w x ∧
    H'.blk q5 = some [vi (dn x.1).1, vi (dn x.1).2, vi (dn x.2).1, vi (dn x.2).2] ∧ q5 < H'.next ∧ H'.blk r6 = some [vi 0, vi 0, vi 0, vi 0] ∧ r6 < H'.next ∧ Ext H H' ∧
    e' = [s, u, .agg #[vi (dn x0.1).1, vi (dn x0.1).2, vi (dn x0.2).1, vi (dn x0.2).2], .int .i64 i, .int .i64 (fine : Int), .pointer (some ⟨q5, 0, none⟩), .pointer (some ⟨r6, 0, none⟩), x7, x8]) (x0.2 - x0.1).toNat
    ⟨x0, _, _, hr, hxx, by omega, rfl, hb1, hb5, hb2, hb6, x02, rfl⟩ ?_
  clear hb1 hb2 hb5 hb6 x02 hx1 hx2
  rintro w e' G ⟨x, x7, x8, hr, hxx, hw, hnar, hb5, hq5l, hb6, hr6l, hx, rfl⟩
  obtain ⟨r1, r2⟩ := hr
  have hn0 := hx.next
  obtain ⟨w', rfl⟩ : ∃ w', w = w' + 1 := ⟨w - 1, by omega⟩
  rw [narN] at hnar
  refine s_block1 ?_
  refine s_reg ?_
  simp only [o_pure, o_callF, POp.ev, Opd.ev, gv, setD, List.map, Option.some.injEq, exists_eq_left', fadV, Nat.zero_add, Nat.add_zero, (two4 hb5).1, (two4 hb5).2]
  rw [← dv, ← dv]
  refine (dyHalf_ok lim x.1 x.2 G (by omega) (by omega) (by omega)).mono ?_
  rintro _ G1 ⟨rfl, hg1⟩
  have hn1 := hg1.next
  simp only [o_cont, o_pure, o_eff, o_nil, POp.ev, Opd.ev, EOp.ev, gv, setD, List.set, Option.some.injEq, exists_eq_left', extV, List.getElem?_toArray, List.getElem?_cons_zero, List.getElem?_cons_succ, dv2, store2_new (lim := lim) (H := G1) (by omega)]
  have hg2 := Ext.alloc G1 [vi (dnorm (x.1 + x.2) 6).1, vi (dnorm (x.1 + x.2) 6).2]
  have hb7 := alloc_new G1 [vi (dnorm (x.1 + x.2) 6).1, vi (dnorm (x.1 + x.2) 6).2]
  have hl7 : (G1.alloc [vi (dnorm (x.1 + x.2) 6).1, vi (dnorm (x.1 + x.2) 6).2]).next = G1.next + 1 := rfl
  generalize G1.alloc [vi (dnorm (x.1 + x.2) 6).1, vi (dnorm (x.1 + x.2) 6).2] = G2 at hg2 hb7 hl7 ⊢
  have hxG2 := (hx.trans hg1).trans hg2
  replace hb5 := ((hg1.trans hg2).blk _ hq5l).trans hb5
  replace hb6 := ((hg1.trans hg2).blk _ hr6l).trans hb6
  have stop : ∀ (G3 : AHeap) (e : List Value), Ext G2 G3 → narN (fam p q i (2 ^ fine)) (x0.2 - x0.1).toNat x0 = x → gv e 5 = .pointer (some ⟨q5, 0, none⟩) → gv e 6 = .pointer (some ⟨r6, 0, none⟩) →
      FinP [.cN 6 4] (fun v H' => v = tv (ivT (narN (fam p q i (2 ^ fine)) (x0.2 - x0.1).toNat x0)) ∧ Ext H H') .ret e (G3.put r6 [vi (dn x.1).1, vi (dn x.1).2, vi (dn x.2).1, vi (dn x.2).2]) := by
    intro G3 e h3 hn h5 h6
    simp only [p_fin_ret, resV, resOne, h6, load4 (put_same _ _ _), Option.some.injEq, exists_eq_left']
    rw [hn]
    exact ⟨rfl, Chg.ext (hxG2.trans h3) (Chg.put _ _ _) (by omega)⟩
  by_cases hodd : (x.1 + x.2) % 2 = 1
  · rw [if_pos (.inl hodd)] at hnar
    have hm := half_odd hodd
    have d6 : decide ((((dnorm (x.1 + x.2) 6).2 : Nat) : Int) > 5) = true := by rw [hm]; rfl
    refine s_test ?_
    simp only [o_pure, o_guard, gk_tf, o_nil, POp.ev, Opd.ev, gv, setD, Option.some.injEq, exists_eq_left', pickV, binV, load1V, fadV, ne_eq, not_true_eq_false, if_false, List.getElem?_cons_zero, List.getElem?_cons_succ, Nat.zero_add, cell_blk hb7, d6]
    refine Test.true_ ?_
    refine s_reg ?_
    simp only [o_pure, o_eff, o_nil, POp.ev, Opd.ev, EOp.ev, gv, setD, Option.some.injEq, exists_eq_left', load4 hb5, store4 (lim := lim) (show lim ≤ r6 by omega) hb6]
    refine s_ret1 ?_
    simp only [p_seq_ret, p_block_ret]
    exact stop G2 _ (Ext.refl _) hnar rfl rfl
  · have heven : (x.1 + x.2) % 2 = 0 := by omega
    have hm := half_even heven
    have hk5 := dn_K ((x.1 + x.2) / 2)
    have hmm : x.1 < (x.1 + x.2) / 2 ∧ (x.1 + x.2) / 2 < x.2 := by omega
    rw [hm] at hb7
    generalize (x.1 + x.2) / 2 = m at *
    have hab := dn_abs m
    have d6 : decide ((((dn m).2 : Nat) : Int) > 5) = false := by simp; omega
    refine s_test ?_
    simp only [o_pure, o_callF, o_guard, gk_ff, POp.ev, Opd.ev, gv, setD, List.map, Option.some.injEq, exists_eq_left', binV, load1V, fadV, ne_eq, not_true_eq_false, if_false, List.getElem?_cons_zero, List.getElem?_cons_succ, Nat.zero_add, cell_blk hb7, d6, load2 hb7]
    rw [← dv]
    refine (faSign_ok lim s u p q fine (dn m) i G2 (by omega) (h.ext hxG2) (by omega) (by omega) hk5).mono ?_
    rintro _ G3 ⟨rfl, hg3⟩
    have hn3 := hg3.next
    replace hb5 := (hg3.blk _ (by omega)).trans hb5
    replace hb6 := (hg3.blk _ (by omega)).trans hb6
    replace hb7 := (hg3.blk _ (by omega)).trans hb7
    have hxG3 := hxG2.trans hg3
    simp only [o_cont, o_pure, o_guard, gk_ff, o_nil, POp.ev, Opd.ev, gv, setD, Option.some.injEq, exists_eq_left', pickV, binV, ne_eq, not_true_eq_false, if_false]
    refine Test.split (fun hh => ?_) (fun hh => ?_)
    · rw [if_pos (.inr (by simpa using hh))] at hnar
      refine s_reg ?_
      simp only [o_pure, o_eff, o_nil, POp.ev, Opd.ev, EOp.ev, gv, setD, Option.some.injEq, exists_eq_left', load4 hb5, store4 (lim := lim) (show lim ≤ r6 by omega) hb6]
      refine s_ret1 ?_
      simp only [p_seq_ret, p_block_ret]
      exact stop G3 _ hg3 hnar rfl rfl
    · have hne : ¬ sgA (fam p q i (2 ^ fine)) (dn m) = 0 := by simpa using hh
      rw [if_neg (fun hc => hc.elim hodd hne)] at hnar
      clear stop
      refine s_skip1 ?_
      simp +decide only [p_seq_normal]
      refine s_reg ?_
      simp only [o_pure, o_eff, o_nil, POp.ev, Opd.ev, EOp.ev, gv, setD, List.set, List.map, Option.map_some, Option.some.injEq, exists_eq_left', fadV, Nat.add_zero, (two4 hb5).1, load2 hb7, fill22, store4_new (lim := lim) (H := G3) (by omega)]
      have hg4 := Ext.alloc G3 [vi (dn x.1).1, vi (dn x.1).2, vi (dn m).1, vi (dn m).2]
      have hb8 := alloc_new G3 [vi (dn x.1).1, vi (dn x.1).2, vi (dn m).1, vi (dn m).2]
      have hl8 : (G3.alloc [vi (dn x.1).1, vi (dn x.1).2, vi (dn m).1, vi (dn m).2]).next = G3.next + 1 := rfl
      replace hb5 := (hg4.blk _ (by omega)).trans hb5
      replace hb6 := (hg4.blk _ (by omega)).trans hb6
      replace hb7 := (hg4.blk _ (by omega)).trans hb7
      generalize G3.alloc [vi (dn x.1).1, vi (dn x.1).2, vi (dn m).1, vi (dn m).2] = G4 at hg4 hb5 hb6 hb7 hb8 hl8 ⊢
      have hxG4 := hxG3.trans hg4
      have tvy : tv (iv (dn x.1) (dn m)) = .agg #[vi (dn x.1).1, vi (dn x.1).2, vi (dn m).1, vi (dn m).2] := rfl
      have hx1a := dn_abs x.1
      refine s_test1 ?_
      simp only [o_pure, o_callF, POp.ev, Opd.ev, gv, setD, List.map, Option.some.injEq, exists_eq_left', load4 hb8]
      rw [← tvy]
      refine (faCross_ok lim s u p q fine (dn x.1) (dn m) i G4 (by omega) (h.ext hxG4) (by omega) (by omega) (dn_K _) (by omega) hk5).mono ?_
      rintro _ G5 ⟨rfl, hg5⟩
      have hn5 := hg5.next
      replace hb5 := (hg5.blk _ (by omega)).trans hb5
      replace hb6 := (hg5.blk _ (by omega)).trans hb6
      replace hb7 := (hg5.blk _ (by omega)).trans hb7
      replace hb8 := (hg5.blk _ (by omega)).trans hb8
      have hxG5 := hxG4.trans hg5
      simp only [o_cont, o_nil, gv, setD]
      refine Test.split (fun hc => ?_) (fun hc => ?_)
      · rw [if_pos (by simpa using hc)] at hnar
        refine s_reg1 ?_
        simp only [o_pure, o_eff, o_nil, POp.ev, Opd.ev, EOp.ev, gv, setD, Option.some.injEq, exists_eq_left', load4 hb8, store4 (lim := lim) (show lim ≤ q5 by omega) hb5]
        simp +decide only [p_seq_normal, p_block_normal]
        exact Round.mk w' (by omega) ⟨(x.1, m), _, _, ⟨r1, by simp only; omega⟩, hmm.1, by simp only; omega, hnar, put_same _ _ _, by rw [put_next]; omega, by rw [put_ne _ _ (by omega)]; exact hb6, by rw [put_next]; omega, Chg.ext hxG5 (Chg.put _ _ _) (by omega), rfl⟩
      · rw [if_neg (by simpa using hc)] at hnar
        refine s_reg1 ?_
        simp only [o_pure, o_eff, o_nil, POp.ev, Opd.ev, EOp.ev, gv, setD, List.map, Option.map_some, Option.some.injEq, exists_eq_left', fadV, Nat.zero_add, load2 hb7, (two4 hb5).2, fill22, store4 (lim := lim) (show lim ≤ q5 by omega) hb5]
        simp +decide only [p_seq_normal, p_block_normal]
        exact Round.mk w' (by omega) ⟨(m, x.2), _, _, ⟨by simp only; omega, r2⟩, hmm.2, by simp only; omega, hnar, put_same _ _ _, by rw [put_next]; omega, by rw [put_ne _ _ (by omega)]; exact hb6, by rw [put_next]; omega, Chg.ext hxG5 (Chg.put _ _ _) (by omega), rfl⟩
end Go.Proofs.YtldpdjpchcoigaaGreat

/- Families, the reference: tracks; no condition beyond stated ranges. -/
namespace Go.Proofs.YtldpdjpchcoigaaGreat
open Go.Ab Ints
set_option linter.unusedSimpArgs false
set_option linter.unusedVariables false

theorem bslice_tm (H : AHeap) (t : Tm) : bsliceH H 1 [vi 0, vi 0, vi 0, vi 0] [(0, 4, tv t)] = some (.slice (some ⟨H.next, 0, some 0⟩) 1 1, H.alloc (tc t)) := by
  simp [bsliceH, fillV, cellsV, tv, tc]
/-- one interval put behind a list of one's own -/
theorem VecT.push {lim : Nat} {H : AHeap} {b : Nat} {v : Value} {l : List Tm} (h : VecT H b v l) (t : Tm) (hl : lim ≤ b) (hn : l.length ≤ 1000000) :
    ∃ v' H' b', appendH lim (H.alloc (tc t)) 4 32 v (.slice (some ⟨H.next, 0, some 0⟩) 1 1) = some (v', H') ∧ VecT H' b' v' (l ++ [t]) ∧ (b' = b ∨ H.next ≤ b') ∧ b' < H'.next ∧ Chg b H H' := by
  have hx : Vec (H.alloc (tc t)) H.next (.slice (some ⟨H.next, 0, some 0⟩) 1 1) 1 4 (tc t) := Vec.lit rfl
  obtain ⟨v', H', b', h1, h2, h3, h4, h5⟩ := (Vec.ext h (Ext.alloc H (tc t))).append (lim := lim) hl hx.sl (by decide) (bytes := 32) (by omega)
  refine ⟨v', H', b', h1, ?_, ?_, (h2.blk (by omega)).elim fun _ h => h.2, (Chg.of_ext (Ext.alloc H (tc t))).trans h4⟩
  · show Vec H' b' v' (l ++ [t]).length 4 (tcs (l ++ [t]))
    rw [List.length_append, tcs_append]
    simpa [tcs] using h2
  · rcases h3 with rfl | ⟨rfl, _⟩
    · exact .inl rfl
    · exact .inr (Nat.le_succ _)
/-- a track as it is answered -/
def TrkV (lo : Nat) (H : AHeap) (v : Value) (R : Option (List Tm)) : Prop := ∃ w b, v = .tuple #[w, .bool R.isSome] ∧ lo ≤ b ∧ VecT H b w (R.getD [])
def trk (R : Option (List (Int × Int))) : Option (List Tm) := R.map (·.map ivT)
theorem faFollow_ok (lim : Nat) (s u : Value) (p q : List Int) (fine : Nat) (x0 : Int × Int) (H : AHeap) (hl : lim ≤ H.next) (h : Fam H s u p q fine) (hr : Rng x0) (hxx : x0.1 < x0.2) :
    ACalls Tryz.prog lim n_spec_faFollow [s, u, tv (ivT x0), .int .i64 (fine : Int)] H fun v H' => TrkV H.next H' v (trk (folN p q (2 ^ fine) (2 ^ fine) 0 x0)) ∧ Ext H H' := by
  refine is_spec_faFollow.go rfl ?_
  unfold c_spec_faFollow
  have hxv : ∀ x, tv (ivT x) = .agg #[vi (dn x.1).1, vi (dn x.1).2, vi (dn x.2).1, vi (dn x.2).2] := fun _ => rfl
  rw [hxv x0]
  have hf := h.hf
  have hpn : ((2 ^ fine : Nat) : Int) = (2 : Int) ^ fine := pow_nat fine
  have hp16 : 2 ^ fine ≤ 2 ^ 4 := Nat.pow_le_pow_right (by decide) hf
  refine s_reg ?_
  simp only [o_pure, o_eff, o_nil, POp.ev, Opd.ev, EOp.ev, env0, gu, gv, setD, List.set, Option.map_some, Option.some.injEq, exists_eq_left', boxH, cellsV]
  have hx1 := Ext.alloc H [vi (dn x0.1).1, vi (dn x0.1).2, vi (dn x0.2).1, vi (dn x0.2).2]
  have hb1 := alloc_new H [vi (dn x0.1).1, vi (dn x0.1).2, vi (dn x0.2).1, vi (dn x0.2).2]
  have hl1 : (H.alloc [vi (dn x0.1).1, vi (dn x0.1).2, vi (dn x0.2).1, vi (dn x0.2).2]).next = H.next + 1 := rfl
  generalize H.alloc [vi (dn x0.1).1, vi (dn x0.1).2, vi (dn x0.2).1, vi (dn x0.2).2] = H1 at hx1 hb1 hl1 ⊢
  generalize hq4 : H.next = q4 at *
  have hq4l : q4 < H1.next := by omega
  refine s_reg ?_
  simp only [o_pure, o_nil, POp.ev, Opd.ev, setD, List.set, Option.some.injEq, exists_eq_left']
  refine s_assoc (s_reg ?_)
  simp only [o_pure, o_nil, POp.ev, Opd.ev, setD, List.set, Option.some.injEq, exists_eq_left']
  refine s_block ?_
  refine s_loop1 (fun w e' H' => ∃ (i : Nat) (x : Int × Int) (done : List (Int × Int)) (b : Nat) (v x9 x10 : Value), i + w = 2 ^ fine ∧ Rng x ∧ x.1 < x.2 ∧ done.length = i ∧
    folN p q (2 ^ fine) (2 ^ fine) 0 x0 = (folN p q (2 ^ fine) w i x).map (done ++ ·) ∧
    H'.blk q4 = some [vi (dn x.1).1, vi (dn x.1).2, vi (dn x.2).1, vi (dn x.2).2] ∧ q4 < H'.next ∧ q4 < b ∧ (b < H'.next ∨ v = .slice none 0 0 ∧ done = []) ∧ VecT H' b v (done.map ivT) ∧ Ext H H' ∧
    e' = [s, u, .agg #[vi (dn x0.1).1, vi (dn x0.1).2, vi (dn x0.2).1, vi (dn x0.2).2], .int .i64 (fine : Int), .pointer (some ⟨q4, 0, none⟩), .slice none 0 0, .bool false, v, .int .i64 (i : Int), x9, x10]) (2 ^ fine)
    ⟨0, x0, [], q4 + 1, _, _, _, by omega, hr, hxx, rfl, by cases folN p q (2 ^ fine) (2 ^ fine) 0 x0 <;> simp, hb1, hq4l, by omega, .inr ⟨rfl, rfl⟩, Vec.nil _ _ _, hx1, rfl⟩ ?_
  clear hb1 hq4l hx1 hl1 hr hxx
  rintro w e' G ⟨i, x, done, b, v, x9, x10, hiw, hr, hxx, hdl, hfol, hb4, hq4l, hqb, hbl, hv, hx, rfl⟩
  have hn0 := hx.next
  refine s_test ?_
  simp only [o_pure, o_callF, POp.ev, Opd.ev, gv, setD, List.map, Option.some.injEq, exists_eq_left']
  refine (Ints.power_ok _ fine G (by omega)).mono ?_
  rintro _ HH ⟨rfl, hh⟩
  subst HH
  simp only [o_cont, o_pure, o_nil, POp.ev, Opd.ev, gv, setD, Option.some.injEq, exists_eq_left', binV, ne_eq, not_true_eq_false, if_false]
  refine Test.split (fun hlt => ?_) (fun hlt => ?_)
  · have hlt' : i < 2 ^ fine := by have := of_decide_eq_true hlt; rw [← hpn] at this; omega
    obtain ⟨w', rfl⟩ : ∃ w', w = w' + 1 := ⟨w - 1, by omega⟩
    have hfs : folN p q (2 ^ fine) (w' + 1) i x = (find7 (fam p q i (2 ^ fine)) (fam p q (i + 1 : Nat) (2 ^ fine)) x).bind fun y => (folN p q (2 ^ fine) w' (i + 1) (narN (fam p q (i + 1 : Nat) (2 ^ fine)) (y.2 - y.1).toNat y)).map (y :: ·) := by rw [folN]
    refine s_skip1 ?_
    simp +decide only [p_seq_normal]
    refine s_block ?_
    refine s_reg ?_
    simp only [o_pure, o_callF, POp.ev, Opd.ev, gv, setD, List.map, Option.some.injEq, exists_eq_left', load4 hb4]
    rw [← hxv x]
    refine (faFind_ok lim s u p q fine x i G (by omega) (h.ext hx) (by omega) hr hxx).mono ?_
    rintro _ G1 ⟨rfl, hg1⟩
    have hn1 := hg1.next
    cases hfd : find7 (fam p q i (2 ^ fine)) (fam p q (i + 1 : Nat) (2 ^ fine)) x with
    | none =>
      rw [hfs, hfd] at hfol
      simp only [o_cont, o_pure, o_eff, o_nil, POp.ev, Opd.ev, EOp.ev, gv, setD, List.set, Option.some.injEq, exists_eq_left', extV, List.getElem?_toArray, List.getElem?_cons_zero, List.getElem?_cons_succ, findV, store4_new (lim := lim) (H := G1) (show lim ≤ G1.next by omega), tv]
      refine s_test ?_
      simp only [o_pure, o_nil, POp.ev, Opd.ev, gv, setD, Option.some.injEq, exists_eq_left', unV, Bool.not_false]
      refine Test.true_ ?_
      refine s_reg ?_
      simp only [o_pure, o_nil, POp.ev, Opd.ev, setD, List.set, Option.some.injEq, exists_eq_left']
      refine s_ret1 ?_
      simp +decide only [p_seq_ret, p_block_ret, p_fin_ret, resV, resOne, resL, gv, Option.some.injEq, exists_eq_left', Option.bind_some, Option.map_some]
      refine ⟨?_, (hx.trans hg1).trans (Ext.alloc _ _)⟩
      rw [hfol]
      exact ⟨.slice none 0 0, H.next, rfl, by omega, Vec.nil _ _ _⟩
    | some y =>
      rw [hfs, hfd, Option.bind_some] at hfol
      obtain ⟨hry, hyy, _⟩ := findN_rng hr hxx 7 0 hfd
      simp only [o_cont, o_pure, o_eff, o_nil, POp.ev, Opd.ev, EOp.ev, gv, setD, List.set, Option.some.injEq, exists_eq_left', extV, List.getElem?_toArray, List.getElem?_cons_zero, List.getElem?_cons_succ, findV, hxv y, store4_new (lim := lim) (H := G1) (show lim ≤ G1.next by omega)]
      have hg2 := Ext.alloc G1 [vi (dn y.1).1, vi (dn y.1).2, vi (dn y.2).1, vi (dn y.2).2]
      have hb9 := alloc_new G1 [vi (dn y.1).1, vi (dn y.1).2, vi (dn y.2).1, vi (dn y.2).2]
      have hl9 : (G1.alloc [vi (dn y.1).1, vi (dn y.1).2, vi (dn y.2).1, vi (dn y.2).2]).next = G1.next + 1 := rfl
      generalize G1.alloc [vi (dn y.1).1, vi (dn y.1).2, vi (dn y.2).1, vi (dn y.2).2] = G2 at hg2 hb9 hl9 ⊢
      have hxG2 := (hx.trans hg1).trans hg2
      replace hb4 := ((hg1.trans hg2).blk _ hq4l).trans hb4
      replace hv := Vec.ext hv (hg1.trans hg2)
      refine s_test ?_
      simp only [o_pure, o_nil, POp.ev, Opd.ev, gv, setD, Option.some.injEq, exists_eq_left', unV, Bool.not_true]
      refine Test.false_ (s_skip1 ?_)
      simp +decide only [p_seq_normal]
      obtain ⟨b1, hv1, hqb1, hbn⟩ : ∃ b1, VecT G2 b1 v (done.map ivT) ∧ q4 < b1 ∧ b1 ≠ G1.next := by
        rcases hbl with hbl | ⟨rfl, rfl⟩
        · exact ⟨b, hv, hqb, by omega⟩
        · exact ⟨G2.next + 1, Vec.nil _ _ _, by omega, by omega⟩
      obtain ⟨v', G3, b', g1, g2, g3, g4, g5⟩ := VecT.push (lim := lim) hv1 (ivT y) (by omega) (by rw [List.length_map]; omega)
      refine s_reg ?_
      simp only [o_pure, o_eff, o_nil, POp.ev, Opd.ev, EOp.ev, gv, setD, List.set, List.map, Option.some.injEq, exists_eq_left', load4 hb9]
      rw [← hxv y]
      simp only [bslice_tm, g1, Option.some.injEq, exists_eq_left']
      have hn3 := g5.next
      replace hb4 := (g5.blk _ (by omega) (by omega)).trans hb4
      replace hb9 : G3.blk G1.next = some [vi (dn y.1).1, vi (dn y.1).2, vi (dn y.2).1, vi (dn y.2).2] := (g5.blk _ (by omega) (by omega)).trans hb9
      have hxG3 : Ext H G3 := Chg.ext hxG2 g5 (by omega)
      refine s_reg1 ?_
      simp only [o_pure, o_callF, POp.ev, Opd.ev, gv, setD, List.map, Option.some.injEq, exists_eq_left', binV, ne_eq, not_true_eq_false, if_false, load4 hb9, add1 (i := i) (by omega)]
      rw [← hxv y]
      refine (faNarrow_ok lim s u p q fine y (i + 1) G3 (by omega) (h.ext hxG3) (by omega) hry hyy).mono ?_
      rintro _ G4 ⟨rfl, hg4⟩
      have hn4 := hg4.next
      obtain ⟨hrz, hzz⟩ := narN_rng (f := fam p q (i + 1 : Nat) (2 ^ fine)) (y.2 - y.1).toNat hry hyy
      replace hb4 := (hg4.blk _ (by omega)).trans hb4
      generalize narN (fam p q (i + 1 : Nat) (2 ^ fine)) (y.2 - y.1).toNat y = z at *
      simp only [o_cont, o_eff, o_nil, Opd.ev, EOp.ev, gv, setD, Option.some.injEq, exists_eq_left', hxv z, store4 (lim := lim) (show lim ≤ q4 by omega) hb4]
      simp +decide only [p_seq_normal, p_block_normal]
      refine s_reg1 ?_
      simp only [o_pure, o_nil, POp.ev, Opd.ev, gv, setD, List.set, Option.some.injEq, exists_eq_left', binV, ne_eq, not_true_eq_false, if_false, add1 (i := i) (by omega)]
      simp +decide only [p_seq_normal]
      refine Round.mk w' (by omega) ⟨i + 1, z, done ++ [y], b', v', _, _, by omega, hrz, hzz, by simp [hdl], ?_, put_same _ _ _, by rw [put_next]; omega, by rcases g3 with rfl | g3 <;> omega, .inl (by rw [put_next]; omega), ?_, Chg.ext (hxG3.trans hg4) (Chg.put _ _ _) (by omega), rfl⟩
      · rw [hfol]
        cases folN p q (2 ^ fine) w' (i + 1) z <;> simp
      · rw [List.map_append]
        exact Vec.chg (Vec.ext g2 hg4) (Chg.put _ _ _) (by rcases g3 with rfl | g3 <;> omega)
  · have hge : w = 0 := by have := of_decide_eq_false hlt; rw [← hpn] at this; omega
    subst hge
    refine s_exit1 ?_
    simp +decide only [p_seq_normal, p_seq_exit, p_block_exit, reduceIte]
    refine s_reg ?_
    simp only [o_pure, o_nil, POp.ev, Opd.ev, gv, setD, List.set, Option.some.injEq, exists_eq_left']
    refine s_ret1 ?_
    simp +decide only [p_fin_ret, resV, resOne, resL, gv, Option.some.injEq, exists_eq_left', Option.bind_some, Option.map_some]
    refine ⟨?_, hx⟩
    rw [hfol]
    refine ⟨v, b, rfl, by omega, ?_⟩
    simpa [trk, folN] using hv
end Go.Proofs.YtldpdjpchcoigaaGreat

/- FollowRoot, the reference: for all arguments; no condition beyond stated lengths. -/
namespace Go.Proofs.YtldpdjpchcoigaaGreat
open Go.Ab Ints
set_option linter.unusedSimpArgs false
set_option linter.unusedVariables false

def folR (p q : List Int) (t : Tm) (fine : Int) : Option (List Tm) := if askF p q fine && fitB t then trk (folN p q (2 ^ fine.toNat) (2 ^ fine.toNat) 0 (ivX t)) else none
theorem ask_fam {H : AHeap} {s u : Value} {p q : List Int} {fine : Int} (hs : SlI H s p) (hu : SlI H u q) (h : askF p q fine = true) : ∃ f : Nat, fine = (f : Int) ∧ Fam H s u p q f := by
  simp only [askF, Bool.and_eq_true, decide_eq_true_eq] at h
  obtain ⟨⟨h1, h2⟩, h3, h4⟩ := h
  obtain ⟨a1, a2, a3⟩ := small_all h1
  obtain ⟨b1, b2, b3⟩ := small_all h2
  exact ⟨fine.toNat, by omega, hs, hu, a2, b2, a3, b3, by omega⟩
theorem sFollow_ok (lim : Nat) (s u : Value) (p q : List Int) (t : Tm) (fine : Int) (H : AHeap) (hl : lim ≤ H.next) (hs : SlI H s p) (hu : SlI H u q) (hn : p.length ≤ 1000000000) (hn2 : q.length ≤ 1000000000) :
    ACalls Tryz.prog lim n_spec_FollowRoot [s, u, tv t, .int .i64 fine] H fun v H' => TrkV H.next H' v (folR p q t fine) ∧ Ext H H' := by
  refine is_spec_FollowRoot.go rfl ?_
  unfold c_spec_FollowRoot
  have hxv : tv t = .agg #[vi t.c, vi t.x, vi t.y, vi t.z] := rfl
  rw [hxv]
  refine s_reg ?_
  simp only [o_pure, o_eff, o_nil, POp.ev, Opd.ev, EOp.ev, env0, gu, gv, setD, List.set, Option.map_some, Option.some.injEq, exists_eq_left', boxH, cellsV]
  have hx1 := Ext.alloc H [vi t.c, vi t.x, vi t.y, vi t.z]
  have hb1 := alloc_new H [vi t.c, vi t.x, vi t.y, vi t.z]
  have hl1 : (H.alloc [vi t.c, vi t.x, vi t.y, vi t.z]).next = H.next + 1 := rfl
  generalize H.alloc [vi t.c, vi t.x, vi t.y, vi t.z] = H1 at hx1 hb1 hl1 ⊢
  have no : ∀ (H2 : AHeap) (e : List Value), Ext H H2 → folR p q t fine = none → gv e 5 = .slice none 0 0 → gv e 6 = .bool false →
      FinP [.v 5, .v 6] (fun v H' => TrkV H.next H' v (folR p q t fine) ∧ Ext H H') .ret e H2 := by
    intro H2 e h2 hn h5 h6
    simp only [p_fin_ret, resV, resL, resOne, h5, h6, Option.bind_some, Option.map_some, Option.some.injEq, exists_eq_left']
    rw [hn]
    exact ⟨⟨.slice none 0 0, H.next, rfl, Nat.le_refl _, Vec.nil _ _ _⟩, h2⟩
  cases hA : askF p q fine
  · have hn0 : folR p q t fine = none := by simp [folR, hA]
    refine s_test ?_
    simp only [o_pure, o_callF, POp.ev, Opd.ev, gv, setD, List.map, Option.some.injEq, exists_eq_left']
    refine (faAsked_ok _ s u p q fine H1 (SlI.ext hs hx1) (SlI.ext hu hx1) hn hn2).eq ?_
    simp only [o_cont, o_pure, o_guard, gk_tf, o_nil, POp.ev, Opd.ev, gv, setD, Option.some.injEq, exists_eq_left', pickV, unV, Bool.not_false, hA]
    refine Test.true_ ?_
    refine s_reg ?_
    simp only [o_pure, o_nil, POp.ev, Opd.ev, setD, List.set, Option.some.injEq, exists_eq_left']
    refine s_ret1 ?_
    simp only [p_seq_ret]
    exact no _ _ hx1 hn0 rfl rfl
  · refine s_test ?_
    simp only [o_pure, o_callF, POp.ev, Opd.ev, gv, setD, List.map, Option.some.injEq, exists_eq_left']
    refine (faAsked_ok _ s u p q fine H1 (SlI.ext hs hx1) (SlI.ext hu hx1) hn hn2).eq ?_
    simp only [o_cont, o_pure, o_callF, o_guard, gk_ff, POp.ev, Opd.ev, gv, setD, List.map, Option.some.injEq, exists_eq_left', unV, Bool.not_true, hA, load4 hb1]
    rw [← hxv]
    refine (deFit_ok lim t H1 (by omega)).mono ?_
    rintro _ H2 ⟨rfl, hx2⟩
    have hn2' := hx2.next
    simp only [o_cont, o_pure, o_guard, gk_ff, o_nil, POp.ev, Opd.ev, gv, setD, Option.some.injEq, exists_eq_left', pickV, unV]
    cases hB : fitB t
    · have hn0 : folR p q t fine = none := by simp [folR, hB]
      refine Test.true_ ?_
      refine s_reg ?_
      simp only [o_pure, o_nil, POp.ev, Opd.ev, setD, List.set, Option.some.injEq, exists_eq_left']
      refine s_ret1 ?_
      simp only [p_seq_ret]
      exact no _ _ (hx1.trans hx2) hn0 rfl rfl
    · clear no
      refine Test.false_ (s_skip1 ?_)
      simp +decide only [p_seq_normal]
      obtain ⟨f, rfl, hF⟩ := ask_fam (SlI.ext hs (hx1.trans hx2)) (SlI.ext hu (hx1.trans hx2)) hA
      obtain ⟨x, hx, hr, hxx⟩ := fit_all hB
      replace hb1 := (hx2.blk _ (by omega)).trans hb1
      refine s_reg ?_
      simp only [o_pure, o_callF, POp.ev, Opd.ev, gv, setD, List.map, Option.some.injEq, exists_eq_left', load4 hb1]
      rw [← hxv, hx]
      refine (faFollow_ok lim s u p q f x H2 (by omega) hF hr hxx).mono ?_
      rintro _ H3 ⟨⟨w, b, rfl, hb, hv⟩, hx3⟩
      have hR : folR p q (ivT x) (f : Int) = trk (folN p q (2 ^ f) (2 ^ f) 0 x) := by
        rw [hx] at hB
        simp only [folR, hA, hB, ivX_T, Int.toNat_natCast]
        rfl
      simp only [o_cont, o_pure, o_nil, POp.ev, Opd.ev, gv, setD, List.set, Option.some.injEq, exists_eq_left', extV, List.getElem?_toArray, List.getElem?_cons_zero, List.getElem?_cons_succ]
      refine s_ret1 ?_
      simp +decide only [p_fin_ret, resV, resOne, resL, gv, Option.some.injEq, exists_eq_left', Option.bind_some, Option.map_some, resL]
      rw [hR]
      exact ⟨⟨w, b, rfl, by omega, hv⟩, (hx1.trans hx2).trans hx3⟩
end Go.Proofs.YtldpdjpchcoigaaGreat

/- Wide numbers, the program: the machine's own sums with a carry; no condition. -/
namespace Go.Proofs.YtldpdjpchcoigaaGreat
open Go.Ab Ints
set_option linter.unusedSimpArgs false
set_option linter.unusedVariables false

theorem vr_pair {β : Inj} (k l : IntKind) (a b : Int) : VR β (.tuple #[.int k a, .int l b]) (.tuple #[.int k a, .int l b]) := by
  refine .tuple rfl fun i v v' h1 h2 => ?_
  rw [h1] at h2
  cases h2
  match i, h1 with
  | 0, h1 => cases h1; exact .int _ _
  | 1, h1 => cases h1; exact .int _ _
theorem add64_ok (lim x y c : Nat) (hc : c ≤ 1) (H : AHeap) : ACalls Tryz.prog lim n_math_bits_Add64 [.int .u64 x, .int .u64 y, .int .u64 c] H fun v H' =>
    v = .tuple #[.int .u64 (((x + y + c) % 18446744073709551616 : Nat) : Int), .int .u64 (((x + y + c) / 18446744073709551616 : Nat) : Int)] ∧ H' = H := by
  refine .inr ⟨rfl, _, fun β => vr_pair _ _ _ _, fun w => ?_, rfl, rfl⟩
  show (callFunc n_math_bits_Add64 #[.int .u64 x, .int .u64 y, .int .u64 c]).run Tryz.prog w = _
  rw [run_callFunc_extern Tryz.func132 (by kernel_rfl) (by kernel_rfl) (by kernel_rfl) (e := add64Entry) (by kernel_rfl), run_add64 x y c (by omega) (by omega) (by omega) (by omega)]
  simp only [Result.andThen]
  congr 5 <;> omega
theorem sub64_ok (lim x y c : Nat) (hc : c ≤ 1) (H : AHeap) : ACalls Tryz.prog lim n_math_bits_Sub64 [.int .u64 x, .int .u64 y, .int .u64 c] H fun v H' =>
    v = .tuple #[.int .u64 (((x + 18446744073709551616 - y - c) % 18446744073709551616 : Nat) : Int), .int .u64 ((if x < y + c then 1 else 0 : Nat) : Int)] ∧ H' = H := by
  refine .inr ⟨rfl, _, fun β => vr_pair _ _ _ _, fun w => ?_, rfl, rfl⟩
  show (callFunc n_math_bits_Sub64 #[.int .u64 x, .int .u64 y, .int .u64 c]).run Tryz.prog w = _
  rw [run_callFunc_extern Tryz.func134 (by kernel_rfl) (by kernel_rfl) (by kernel_rfl) (e := sub64Entry) (by kernel_rfl), run_sub64 x y c hc]
  rfl
end Go.Proofs.YtldpdjpchcoigaaGreat

/- Wide numbers, the program: made, shifted, compared; no condition beyond stated ranges. -/
namespace Go.Proofs.YtldpdjpchcoigaaGreat
open Go.Ab Ints
set_option linter.unusedSimpArgs false
set_option linter.unusedVariables false

theorem u64_wrap (n : Int) : IntKind.u64.wrap n = n % 18446744073709551616 := by
  simp [IntKind.wrap, IntKind.bits, IntKind.signed]
theorem u64_id {n : Int} (h0 : 0 ≤ n) (h1 : n < 18446744073709551616) : IntKind.u64.wrap n = n := by rw [u64_wrap]; omega
theorem size_ok (lim : Nat) (n : Int) (H : AHeap) (h : n.natAbs ≤ 9000000000000000000) : ACalls Tryz.prog lim n_impl_size [.int .i64 n] H fun v H' => v = .int .u64 (n.natAbs : Int) ∧ H' = H := by
  refine is_impl_size.go rfl ?_
  unfold c_impl_size
  refine s_reg ?_
  simp only [o_pure, o_nil, POp.ev, Opd.ev, env0, gu, setD, List.set, Option.some.injEq, exists_eq_left']
  refine s_test ?_
  simp only [o_pure, o_nil, POp.ev, Opd.ev, gv, setD, Option.some.injEq, exists_eq_left', binV, ne_eq, not_true_eq_false, if_false]
  refine Test.split (fun hh => ?_) (fun hh => ?_)
  · have hn := of_decide_eq_true hh
    have w1 : IntKind.i64.wrap (0 - n) = (n.natAbs : Int) := by rw [show 0 - n = (n.natAbs : Int) by omega]; exact wr_id (by omega) (by omega)
    have w2 : IntKind.u64.wrap (n.natAbs : Int) = (n.natAbs : Int) := u64_id (by omega) (by omega)
    refine s_reg ?_
    simp only [o_pure, o_nil, POp.ev, Opd.ev, gv, setD, List.set, Option.some.injEq, exists_eq_left', convV, unV, w1, w2]
    refine s_ret1 ?_
    simp +decide only [p_seq_ret, p_fin_ret, resV, resOne, gv, Option.some.injEq, exists_eq_left']
  · have hn := of_decide_eq_false hh
    refine s_skip1 ?_
    simp +decide only [p_seq_normal]
    have w2 : IntKind.u64.wrap n = (n.natAbs : Int) := by rw [show n = (n.natAbs : Int) by omega]; exact u64_id (by omega) (by omega)
    refine s_reg ?_
    simp only [o_pure, o_nil, POp.ev, Opd.ev, gv, setD, List.set, Option.some.injEq, exists_eq_left', convV, w2]
    refine s_ret1 ?_
    simp +decide only [p_fin_ret, resV, resOne, gv, Option.some.injEq, exists_eq_left']
/-- a wide number -/
def wv (b : Bool) (hi lo : Nat) : Value := .agg #[.bool b, .int .u64 (hi : Int), .int .u64 (lo : Int)]
theorem fillW (b : Bool) (x y : Int) : fillV [.bool false, .int .u64 0, .int .u64 0] [(0, 1, .bool b), (1, 1, .int .u64 x), (2, 1, .int .u64 y)] = some [.bool b, .int .u64 x, .int .u64 y] := by simp [fillV, cellsV]
theorem fillW2 (b : Bool) (y : Int) : fillV [.bool false, .int .u64 0, .int .u64 0] [(0, 1, .bool b), (2, 1, .int .u64 y)] = some [.bool b, .int .u64 0, .int .u64 y] := by simp [fillV, cellsV]
theorem wideOf_ok (lim : Nat) (n : Int) (H : AHeap) (hl : lim ≤ H.next) (h : n.natAbs ≤ 9000000000000000000) : ACalls Tryz.prog lim n_impl_wideOf [.int .i64 n] H fun v H' => v = wv (decide (n < 0)) 0 n.natAbs ∧ Ext H H' := by
  refine is_impl_wideOf.go rfl ?_
  unfold c_impl_wideOf
  refine s_reg ?_
  simp only [o_eff, o_nil, EOp.ev, env0, gu, setD, List.set, Option.some.injEq, exists_eq_left']
  have hx := Ext.alloc H [.bool false, .int .u64 0, .int .u64 0]
  have hb := alloc_new H [.bool false, .int .u64 0, .int .u64 0]
  generalize H.alloc [.bool false, .int .u64 0, .int .u64 0] = H1 at hx hb ⊢
  refine s_reg ?_
  simp only [o_pure, o_callF, POp.ev, Opd.ev, gv, setD, List.map, Option.some.injEq, exists_eq_left', binV, ne_eq, not_true_eq_false, if_false]
  refine (size_ok _ n H1 h).mono ?_
  rintro _ HH ⟨rfl, hh⟩
  subst HH
  simp only [o_cont, o_pure, o_eff, o_nil, POp.ev, Opd.ev, EOp.ev, gv, setD, List.map, Option.map_some, Option.some.injEq, exists_eq_left', fillW2, store3 (lim := lim) hl hb]
  refine s_ret1 ?_
  simp +decide only [p_fin_ret, resV, resOne, gv, Option.some.injEq, exists_eq_left', load3 (put_same _ _ _)]
  exact ⟨rfl, Chg.ext hx (Chg.put _ _ _) (Nat.le_refl _)⟩
theorem or_zero_l (x : Nat) (h : x < 18446744073709551616) : IntKind.u64.wrap ((BitVec.ofInt IntKind.u64.bits (0 : Int) ||| BitVec.ofInt IntKind.u64.bits (x : Int)).toNat : Int) = (x : Int) := by
  have e : IntKind.u64.bits = 64 := rfl
  rw [e]
  have e2 : (BitVec.ofInt 64 (0 : Int) ||| BitVec.ofInt 64 (x : Int)) = BitVec.ofNat 64 x := by
    have : BitVec.ofInt 64 (x : Int) = BitVec.ofNat 64 x := BitVec.ofInt_natCast 64 x
    rw [this]
    simp
  rw [e2, BitVec.toNat_ofNat, Nat.mod_eq_of_lt (by omega)]
  exact u64_id (by omega) (by omega)
theorem or_zero_r (x : Nat) (h : x < 18446744073709551616) : IntKind.u64.wrap ((BitVec.ofInt IntKind.u64.bits (x : Int) ||| BitVec.ofInt IntKind.u64.bits (0 : Int)).toNat : Int) = (x : Int) := by
  have e : IntKind.u64.bits = 64 := rfl
  rw [e]
  have e2 : (BitVec.ofInt 64 (x : Int) ||| BitVec.ofInt 64 (0 : Int)) = BitVec.ofNat 64 x := by
    have : BitVec.ofInt 64 (x : Int) = BitVec.ofNat 64 x := BitVec.ofInt_natCast 64 x
    rw [this]
    simp
  rw [e2, BitVec.toNat_ofNat, Nat.mod_eq_of_lt (by omega)]
  exact u64_id (by omega) (by omega)
theorem shr_nat (x k : Nat) : ((x : Int).fdiv (2 ^ k)) = ((x / 2 ^ k : Nat) : Int) := by
  rw [Int.fdiv_eq_ediv_of_nonneg _ (by have := pow_pos2 k; omega)]
  rw [← pow_nat]
  exact (Int.natCast_ediv _ _).symm
/-- up by some places -/
theorem shift_up (lim : Nat) (b : Bool) (lo k : Nat) (H : AHeap) (hl : lim ≤ H.next) (hk : k ≤ 40) (hlo : lo ≤ 1099511627776) :
    ACalls Tryz.prog lim n_impl_wide_shift [wv b 0 lo, .int .i64 (k : Int)] H fun v H' => v = wv b (lo * 2 ^ k / 18446744073709551616) (lo * 2 ^ k % 18446744073709551616) ∧ Ext H H' := by
  refine is_impl_wide_shift.go rfl ?_
  unfold c_impl_wide_shift wv
  refine s_reg ?_
  simp only [o_eff, o_nil, Opd.ev, EOp.ev, env0, gu, gv, setD, List.set, Option.map_some, Option.some.injEq, exists_eq_left', boxH, cellsV]
  have hx1 := Ext.alloc H [.bool b, .int .u64 ((0 : Nat) : Int), .int .u64 (lo : Int)]
  have hb1 := alloc_new H [.bool b, .int .u64 ((0 : Nat) : Int), .int .u64 (lo : Int)]
  have hl1 : (H.alloc [.bool b, .int .u64 ((0 : Nat) : Int), .int .u64 (lo : Int)]).next = H.next + 1 := rfl
  generalize H.alloc [.bool b, .int .u64 ((0 : Nat) : Int), .int .u64 (lo : Int)] = H1 at hx1 hb1 hl1 ⊢
  have hx2 := Ext.alloc H1 [.bool false, .int .u64 0, .int .u64 0]
  have hb2 := alloc_new H1 [.bool false, .int .u64 0, .int .u64 0]
  have hl2 : (H1.alloc [.bool false, .int .u64 0, .int .u64 0]).next = H1.next + 1 := rfl
  replace hb1 := (hx2.blk _ (by omega)).trans hb1
  generalize H1.alloc [.bool false, .int .u64 0, .int .u64 0] = H2 at hx2 hb1 hb2 hl2 ⊢
  have d0 : decide ((k : Int) ≥ 0) = true := by simp
  have d64 : decide ((k : Int) ≥ 64) = false := by simp; omega
  have bb : IntKind.u64.bits = 64 := rfl
  have m1 : min ((k : Int)).toNat IntKind.u64.bits = k := by rw [bb]; omega
  have w64 : IntKind.i64.wrap (64 - (k : Int)) = ((64 - k : Nat) : Int) := by rw [show (64 : Int) - k = ((64 - k : Nat) : Int) by omega]; exact wr_nat (by omega)
  have m2 : min (((64 - k : Nat) : Int)).toNat IntKind.u64.bits = 64 - k := by rw [bb]; omega
  have nk : ¬ (k : Int) < 0 := by omega
  have nk2 : ¬ ((64 - k : Nat) : Int) < 0 := by omega
  have s0 : IntKind.u64.wrap (((0 : Nat) : Int) * 2 ^ k) = 0 := by rw [Int.natCast_zero, Int.zero_mul]; decide
  have e1 : lo / 2 ^ (64 - k) = lo * 2 ^ k / 18446744073709551616 := by
    have : (18446744073709551616 : Nat) = 2 ^ (64 - k) * 2 ^ k := by rw [← Nat.pow_add, show 64 - k + k = 64 by omega]
    rw [this, Nat.mul_div_mul_right _ _ (Nat.two_pow_pos k)]
  have hlt : lo * 2 ^ k / 18446744073709551616 < 18446744073709551616 := by
    have : 2 ^ k ≤ 2 ^ 40 := Nat.pow_le_pow_right (by decide) hk
    have : lo * 2 ^ k ≤ 1099511627776 * 2 ^ 40 := Nat.mul_le_mul hlo this
    omega
  have s1 : IntKind.u64.wrap ((lo : Int) * 2 ^ k) = ((lo * 2 ^ k % 18446744073709551616 : Nat) : Int) := by
    rw [u64_wrap, ← pow_nat, ← Int.natCast_mul]; rfl
  refine s_test ?_
  simp only [o_pure, o_nil, POp.ev, Opd.ev, gv, setD, Option.some.injEq, exists_eq_left', binV, ne_eq, not_true_eq_false, if_false, d0]
  refine Test.true_ ?_
  refine s_test ?_
  simp only [o_pure, o_nil, POp.ev, Opd.ev, gv, setD, Option.some.injEq, exists_eq_left', binV, ne_eq, not_true_eq_false, if_false, d64]
  refine Test.false_ (s_skip1 ?_)
  simp +decide only [p_seq_normal]
  refine s_reg ?_
  simp only [o_pure, o_eff, o_nil, POp.ev, Opd.ev, EOp.ev, gv, setD, List.map, Option.map_some, Option.some.injEq, exists_eq_left', binV, load1V, fadV, ne_eq, not_true_eq_false, if_false, List.getElem?_cons_zero, List.getElem?_cons_succ, Nat.zero_add, cell_blk hb1, nk, nk2, m1, w64, m2, s0, shr_nat, e1, s1, or_zero_l _ hlt, fillW, store3 (lim := lim) (show lim ≤ H1.next by omega) hb2]
  refine s_ret1 ?_
  simp +decide only [p_seq_ret, p_fin_ret, resV, resOne, gv, Option.some.injEq, exists_eq_left', load3 (put_same _ _ _)]
  exact ⟨trivial, Chg.ext (hx1.trans hx2) (Chg.put _ _ _) (by omega)⟩
/-- down by one place -/
theorem shift_down (lim : Nat) (b : Bool) (lo : Nat) (H : AHeap) (hl : lim ≤ H.next) (hlo : lo < 18446744073709551616) :
    ACalls Tryz.prog lim n_impl_wide_shift [wv b 0 lo, .int .i64 (-1)] H fun v H' => v = wv b 0 (lo / 2) ∧ Ext H H' := by
  refine is_impl_wide_shift.go rfl ?_
  unfold c_impl_wide_shift wv
  refine s_reg ?_
  simp only [o_eff, o_nil, Opd.ev, EOp.ev, env0, gu, gv, setD, List.set, Option.map_some, Option.some.injEq, exists_eq_left', boxH, cellsV]
  have hx1 := Ext.alloc H [.bool b, .int .u64 ((0 : Nat) : Int), .int .u64 (lo : Int)]
  have hb1 := alloc_new H [.bool b, .int .u64 ((0 : Nat) : Int), .int .u64 (lo : Int)]
  have hl1 : (H.alloc [.bool b, .int .u64 ((0 : Nat) : Int), .int .u64 (lo : Int)]).next = H.next + 1 := rfl
  generalize H.alloc [.bool b, .int .u64 ((0 : Nat) : Int), .int .u64 (lo : Int)] = H1 at hx1 hb1 hl1 ⊢
  have hx2 := Ext.alloc H1 [.bool false, .int .u64 0, .int .u64 0]
  have hb2 := alloc_new H1 [.bool false, .int .u64 0, .int .u64 0]
  have hl2 : (H1.alloc [.bool false, .int .u64 0, .int .u64 0]).next = H1.next + 1 := rfl
  replace hb1 := (hx2.blk _ (by omega)).trans hb1
  generalize H1.alloc [.bool false, .int .u64 0, .int .u64 0] = H2 at hx2 hb1 hb2 hl2 ⊢
  have d0 : decide ((-1 : Int) ≥ 0) = false := by decide
  have wn : IntKind.i64.wrap (0 - (-1)) = 1 := by decide
  have d64 : decide ((1 : Int) ≥ 64) = false := by decide
  have w64 : IntKind.i64.wrap (64 - 1) = 63 := by decide
  have m1 : min (1 : Int).toNat IntKind.u64.bits = 1 := by decide
  have m63 : min (63 : Int).toNat IntKind.u64.bits = 63 := by decide
  have n1 : ¬ (1 : Int) < 0 := by decide
  have n63 : ¬ (63 : Int) < 0 := by decide
  have z1 : 0 / 2 ^ 1 = 0 := by decide
  have s0 : IntKind.u64.wrap (((0 : Nat) : Int) * 2 ^ 63) = 0 := by decide
  have e1 : lo / 2 ^ 1 = lo / 2 := by rw [Nat.pow_one]
  refine s_test ?_
  simp only [o_pure, o_nil, POp.ev, Opd.ev, gv, setD, Option.some.injEq, exists_eq_left', binV, ne_eq, not_true_eq_false, if_false, d0]
  refine Test.false_ (s_skip1 ?_)
  simp +decide only [p_seq_normal]
  refine s_reg ?_
  simp only [o_pure, o_nil, POp.ev, Opd.ev, gv, setD, List.set, Option.some.injEq, exists_eq_left', unV, wn]
  refine s_test ?_
  simp only [o_pure, o_nil, POp.ev, Opd.ev, gv, setD, Option.some.injEq, exists_eq_left', binV, ne_eq, not_true_eq_false, if_false, d64]
  refine Test.false_ (s_skip1 ?_)
  simp +decide only [p_seq_normal]
  refine s_reg ?_
  simp only [o_pure, o_eff, o_nil, POp.ev, Opd.ev, EOp.ev, gv, setD, List.map, Option.map_some, Option.some.injEq, exists_eq_left', binV, load1V, fadV, ne_eq, not_true_eq_false, if_false, List.getElem?_cons_zero, List.getElem?_cons_succ, Nat.zero_add, cell_blk hb1, n1, n63, m1, w64, m63, s0, shr_nat, z1, e1, or_zero_r (lo / 2) (by omega), fillW, store3 (lim := lim) (show lim ≤ H1.next by omega) hb2]
  refine s_ret1 ?_
  simp +decide only [p_fin_ret, resV, resOne, gv, Option.some.injEq, exists_eq_left', load3 (put_same _ _ _)]
  exact ⟨trivial, Chg.ext (hx1.trans hx2) (Chg.put _ _ _) (by omega)⟩
end Go.Proofs.YtldpdjpchcoigaaGreat
