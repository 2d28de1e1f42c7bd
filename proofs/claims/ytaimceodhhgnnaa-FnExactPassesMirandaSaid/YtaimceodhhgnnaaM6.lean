/- Parts of the proof of a statement of this seat: contracts of functions that the law calls, or the law's own row; no condition. -/
import Derived.Test.YtaimceodhhgnnaaAbArg
import Derived.Test.YtaimceodhhgnnaaRows
import Derived.WalkKit
import Derived.ProofKit
import Derived.OpenShut
import Derived.ShutString
import Derived.ChangeOld
import Derived.Below
import Derived.SizedLaws
import Derived.Test.YtaimceodhhgnnaaM5
/- Bernstein coefficients, the program's places: all lists of numbers up to those of a list, in order; no condition beyond stated ranges. -/
namespace Go.Proofs.Ytaimceodhhgnnaa
open Go.Ab Ints
set_option linter.unusedSimpArgs false
set_option linter.unusedVariables false

def zl (l : List Nat) : List Int := l.map fun (n : Nat) => (n : Int)
theorem zl_length (l : List Nat) : (zl l).length = l.length := by simp [zl]
theorem zl_snoc (l : List Nat) (n : Nat) : zl (l ++ [n]) = zl l ++ [(n : Int)] := by simp [zl]
theorem sum_const {α : Type} (c : Nat) : ∀ l : List α, (l.map fun _ => c).sum = l.length * c
  | [] => by simp
  | a :: l => by rw [List.map_cons, List.sum_cons, sum_const c l, List.length_cons, Nat.succ_mul]; omega
theorem placesL_length : ∀ {ms : List Nat}, (∀ m ∈ ms, m ≤ 4) → (placesL ms).length ≤ 5 ^ ms.length
  | [], _ => by simp [placesL]
  | m :: ms, h => by
    have ih := placesL_length (ms := ms) fun x hx => h x (by simp [hx])
    have hm := h m (by simp)
    have e : (placesL (m :: ms)).length = (m + 1) * (placesL ms).length := by
      rw [placesL, List.length_flatMap]
      simp only [List.length_map]
      rw [sum_const, List.length_range]
    rw [e, List.length_cons, Nat.pow_succ, Nat.mul_comm]
    exact Nat.mul_le_mul ih (by omega)
/-- the lists of the next round, made of the first of this one -/
def nxt (ll : List (List Nat)) (k : Nat) : List (List Int) := ll.flatMap fun l => (List.range (k + 1)).map fun n => zl (l ++ [n])
theorem nxt_length (ll : List (List Nat)) (k : Nat) : (nxt ll k).length = ll.length * (k + 1) := by
  unfold nxt
  rw [List.length_flatMap]
  simp only [List.length_map, List.length_range]
  rw [sum_const]
theorem nxt_snoc (ll : List (List Nat)) (l : List Nat) (k : Nat) : nxt (ll ++ [l]) k = nxt ll k ++ (List.range (k + 1)).map fun n => zl (l ++ [n]) := by
  simp [nxt]
theorem nxt_all (ms : List Nat) (k : Nat) : nxt (placesL ms) k = (placesL (ms ++ [k])).map zl := by
  rw [placesL_snoc, nxt, List.map_flatMap]
  congr 1
  funext l
  rw [List.map_map]
  rfl
theorem SlKK.atx {H : AHeap} {v : Value} {ss : List (List Int)} (h : SlKK H v ss) {i : Nat} (hi : i < ss.length) : ∃ b o s, iadV 1 v (.int .i64 i) = some (.pointer (some ⟨b, o, none⟩)) ∧ ∀ H', Ext H H' → H'.cell b o = some s ∧ SlI H' s ss[i] := by
  obtain ⟨vs, h1, h2⟩ := h
  obtain ⟨b, o, g1, g2, g3⟩ := h1.cell .i64 (i := (i : Int)) (by omega) (by omega)
  obtain ⟨s, k1, k2⟩ := h2 i _ (List.getElem?_eq_getElem hi)
  rw [show (i : Int).toNat = i by omega, k1] at g3
  refine ⟨b, o, s, g1, fun H' hx => ⟨?_, SlI.ext k2 hx⟩⟩
  rw [← g3]
  simp only [AHeap.cell, hx.blk _ g2]
theorem SlKK.one (H : AHeap) : SlKK (H.alloc [.slice none 0 0]) (.slice (some ⟨H.next, 0, some 0⟩) 1 1) [[]] := by
  refine ⟨[.slice none 0 0], Vec.sl (Vec.lit rfl), fun i p hp => ?_⟩
  match i, hp with
  | 0, hp =>
    simp at hp
    subst hp
    exact ⟨_, rfl, Sl.nil _ _⟩
theorem places_ok (lim : Nat) (s : Value) (ds : List Nat) (H : AHeap) (hl : lim ≤ H.next) (hs : SlI H s (zl ds)) (hd : ∀ m ∈ ds, m ≤ 4) (hn : ds.length ≤ 3) :
    ACalls Try.prog lim n_impl_places [s] H fun v H' => SlKK H' v ((placesL ds).map zl) ∧ Ext H H' := by
  refine is_impl_places.go rfl ?_
  unfold c_impl_places
  refine s_reg ?_
  simp only [o_pure, o_nil, POp.ev, Opd.ev, env0, gu, setD, List.set, Option.some.injEq, exists_eq_left']
  refine s_reg ?_
  simp only [o_pure, o_eff, o_nil, POp.ev, Opd.ev, EOp.ev, gv, setD, List.set, List.map, Option.some.injEq, exists_eq_left', bsliceV H (x := .slice none 0 0) (.slice none 0 0) rfl]
  have h0 := SlKK.one H
  have hx0 := Ext.alloc H [Value.slice none 0 0]
  generalize H.alloc [Value.slice none 0 0] = H1 at h0 hx0 ⊢
  generalize (Value.slice (some ⟨H.next, 0, some 0⟩) 1 1) = o1 at h0 ⊢
  have hsl := hs.lenV
  rw [zl_length] at hsl
  refine s_assoc (s_reg ?_)
  simp only [o_pure, o_nil, POp.ev, Opd.ev, gv, setD, List.set, Option.some.injEq, exists_eq_left', hsl]
  refine s_block ?_
  refine s_loop1 (fun j e' H' => ∃ (i : Nat) (out x3 x4 x5 x6 x10 x11 x12 x13 x14 : Value), i + j = ds.length ∧ SlKK H' out ((placesL (ds.take i)).map zl) ∧ Ext H H' ∧ e' = [s, .slice none 0 0, out, x3, x4, x5, x6, s, .int .i64 ds.length, .int .i64 i, x10, x11, x12, x13, x14]) ds.length ⟨0, o1, _, _, _, _, _, _, _, _, _, by omega, h0, hx0, rfl⟩ ?_
  clear h0 hx0
  rintro j e' H2 ⟨i, out, x3, x4, x5, x6, x10, x11, x12, x13, x14, hij, ho, hx, rfl⟩
  have hnx := hx.next
  refine s_test ?_
  simp only [o_pure, o_nil, POp.ev, Opd.ev, gv, setD, Option.some.injEq, exists_eq_left', binV, ne_eq, not_true_eq_false, if_false]
  refine Test.split (fun hlt => ?_) (fun hlt => ?_)
  · have hlt' : i < ds.length := by simpa using hlt
    obtain ⟨b1, o1, u1, _, u2⟩ := SlI.get (SlI.ext hs hx) (i := i) (by rw [zl_length]; exact hlt')
    have hk : (zl ds)[i]'(by rw [zl_length]; exact hlt') = ((ds[i] : Nat) : Int) := by simp [zl]
    rw [hk] at u2
    have hk4 := hd _ (List.getElem_mem hlt')
    have htake := List.take_succ_eq_append_getElem hlt'
    have hpl : (placesL (ds.take i)).length ≤ 25 := by
      have h1 := placesL_length (ms := ds.take i) fun m hm => hd m (List.mem_of_mem_take hm)
      have h2 : (5 : Nat) ^ (ds.take i).length ≤ 5 ^ 2 := Nat.pow_le_pow_right (by decide) (by rw [List.length_take]; omega)
      omega
    generalize ds[i] = k at *
    have hol := ho.lenV
    rw [List.length_map] at hol
    have w1 : IntKind.i64.wrap ((k : Int) + 1) = ((k + 1 : Nat) : Int) := wr_nat (n := k + 1) (by omega)
    refine s_skip1 ?_
    simp +decide only [p_seq_normal]
    refine s_block1 ?_
    refine s_reg ?_
    simp only [o_pure, o_nil, POp.ev, Opd.ev, gv, setD, List.set, Option.some.injEq, exists_eq_left', load1V, u1, u2]
    refine s_reg ?_
    simp only [o_pure, o_nil, POp.ev, Opd.ev, setD, List.set, Option.some.injEq, exists_eq_left']
    refine s_assoc (s_reg ?_)
    simp only [o_pure, o_nil, POp.ev, Opd.ev, gv, setD, List.set, Option.some.injEq, exists_eq_left', hol]
    refine s_block ?_
    refine s_loop1 (fun j2 e' H' => ∃ (m b : Nat) (vs : List Value) (bs : List Nat) (nx x5 x6 x13 x14 : Value), m + j2 = (placesL (ds.take i)).length ∧ GrowK H' H2.next b vs bs nx (nxt ((placesL (ds.take i)).take m) k) ∧ Ext H2 H' ∧ e' = [s, .slice none 0 0, out, .int .i64 k, nx, x5, x6, s, .int .i64 ds.length, .int .i64 i, out, .int .i64 (placesL (ds.take i)).length, .int .i64 m, x13, x14]) (placesL (ds.take i)).length ⟨0, H2.next, [], [], .slice none 0 0, _, _, _, _, by omega, GrowK.nil' H2, Ext.refl _, rfl⟩ ?_
    rintro j2 e' H3 ⟨m, b, vs, bs, nx, x5, x6, x13, x14, hmj, hg, hx3, rfl⟩
    have hn3 := hx3.next
    refine s_test ?_
    simp only [o_pure, o_nil, POp.ev, Opd.ev, gv, setD, Option.some.injEq, exists_eq_left', binV, ne_eq, not_true_eq_false, if_false]
    refine Test.split (fun hlt2 => ?_) (fun hlt2 => ?_)
    · have hml : m < (placesL (ds.take i)).length := by simpa using hlt2
      obtain ⟨b2, o2, ls, w2, w3⟩ := ho.atx (i := m) (by rw [List.length_map]; exact hml)
      simp only [List.getElem_map] at w3
      have hmt := List.take_succ_eq_append_getElem hml
      have hll := placesL_len _ _ (List.getElem_mem hml)
      have hll3 : (placesL (ds.take i))[m].length ≤ 3 := by rw [hll, List.length_take]; omega
      have hnl := nxt_length ((placesL (ds.take i)).take m) k
      rw [List.length_take, Nat.min_eq_left (by omega)] at hnl
      have hnl2 : m * (k + 1) ≤ 25 * 5 := Nat.mul_le_mul (by omega) (by omega)
      generalize (placesL (ds.take i))[m] = l at *
      refine s_skip1 ?_
      simp +decide only [p_seq_normal]
      refine s_block1 ?_
      refine s_reg ?_
      simp only [o_pure, o_nil, POp.ev, Opd.ev, gv, setD, List.set, Option.some.injEq, exists_eq_left', load1V, w2, (w3 _ hx3).1]
      refine s_reg ?_
      simp only [o_pure, o_nil, POp.ev, Opd.ev, gv, setD, List.set, Option.some.injEq, exists_eq_left', binV, ne_eq, not_true_eq_false, if_false, w1]
      refine s_block1 ?_
      refine s_loop1 (fun j3 e' H' => ∃ (n b : Nat) (vs : List Value) (bs : List Nat) (nx x6 : Value), n + j3 = k + 1 ∧ GrowK H' H2.next b vs bs nx (nxt ((placesL (ds.take i)).take m) k ++ (List.range n).map fun n => zl (l ++ [n])) ∧ Ext H2 H' ∧ e' = [s, .slice none 0 0, out, .int .i64 k, nx, ls, x6, s, .int .i64 ds.length, .int .i64 i, out, .int .i64 (placesL (ds.take i)).length, .int .i64 m, .int .i64 (k + 1 : Nat), .int .i64 n]) (k + 1) ⟨0, b, vs, bs, nx, _, by omega, by simpa using hg, hx3, rfl⟩ ?_
      clear hg
      rintro j3 e' H4 ⟨n, b, vs, bs, nx, x6, hnj, hg, hx4, rfl⟩
      have hn4 := hx4.next
      refine s_test ?_
      simp only [o_pure, o_nil, POp.ev, Opd.ev, gv, setD, Option.some.injEq, exists_eq_left', binV, ne_eq, not_true_eq_false, if_false]
      refine Test.split (fun hlt3 => ?_) (fun hlt3 => ?_)
      · have hnk : n < k + 1 := by simp at hlt3; omega
        have hlen : (nxt ((placesL (ds.take i)).take m) k ++ (List.range n).map fun n => zl (l ++ [n])).length ≤ 1000 := by
          rw [List.length_append, List.length_map, List.length_range, hnl]
          omega
        refine s_skip1 ?_
        simp +decide only [p_seq_normal]
        refine s_block1 ?_
        refine s_reg ?_
        simp only [o_pure, o_nil, POp.ev, Opd.ev, gv, setD, List.set, Option.some.injEq, exists_eq_left']
        refine s_reg1 ?_
        simp only [o_pure, o_callF, POp.ev, Opd.ev, gv, setD, List.map, Option.some.injEq, exists_eq_left']
        refine (Ints.clone_ok lim ls (zl l) H4 (by omega) (w3 _ hx4).2 (by rw [zl_length]; omega)).mono ?_
        rintro cl H5 ⟨c, hc1, hc2, hcl, hx5⟩
        have hn5 := hx5.next
        obtain ⟨v6, H6, c6, e6, hv6, hc6, hlt6, ch6, n6⟩ := push1 (lim := lim) (bytes := 8) hcl (.int .i64 (n : Int)) (by omega) (by rw [zl_length]; omega)
        have hx6 := Chg.ext hx5 ch6 hc1
        have hn6 := hx6.next
        have hv6' : VecI H6 c6 v6 (zl (l ++ [n])) := by
          rw [zl_snoc]
          exact VecI.snoc hv6
        obtain ⟨v7, H7, b7, e7, hg7, hx7⟩ := GrowK.push (lim := lim) hg (by omega) hx4 (Nat.le_refl _) hn4 hx6 (by rcases hc6 with h | h <;> omega) (by omega) hv6' (by omega)
        simp only [o_cont, o_pure, o_eff, o_nil, POp.ev, Opd.ev, EOp.ev, gv, setD, List.set, List.map, Option.some.injEq, exists_eq_left', bsliceV _ (.int .i64 0) (x := .int .i64 (n : Int)) rfl, e6, bsliceV _ (.slice none 0 0) (x := v6) (Vec.cellsV hv6'), e7]
        simp +decide only [p_seq_normal, p_block_normal]
        refine s_reg1 ?_
        simp only [o_pure, o_nil, POp.ev, Opd.ev, gv, setD, List.set, Option.some.injEq, exists_eq_left', binV, ne_eq, not_true_eq_false, if_false, add1 (i := n) (by omega)]
        simp +decide only [p_seq_normal]
        refine Round.mk (j3 - 1) (by omega) ⟨n + 1, b7, vs ++ [v6], bs ++ [c6], v7, .int .i64 n, by omega, ?_, hx7, rfl⟩
        rw [List.range_succ, List.map_append, ← List.append_assoc]
        exact hg7
      · have hge : n = k + 1 := by simp at hlt3; omega
        subst hge
        refine s_exit1 ?_
        simp +decide only [p_seq_normal, p_seq_exit, p_block_normal, p_block_exit, reduceIte]
        refine s_reg1 ?_
        simp only [o_pure, o_nil, POp.ev, Opd.ev, gv, setD, List.set, Option.some.injEq, exists_eq_left', binV, ne_eq, not_true_eq_false, if_false, add1 (i := m) (by omega)]
        simp +decide only [p_seq_normal]
        refine Round.mk (j2 - 1) (by omega) ⟨m + 1, b, vs, bs, nx, _, _, _, _, by omega, ?_, hx4, rfl⟩
        rw [hmt, nxt_snoc]
        exact hg
    · have hge : m = (placesL (ds.take i)).length := by simp at hlt2; omega
      subst hge
      refine s_exit1 ?_
      simp +decide only [p_seq_normal, p_seq_exit, p_block_exit, reduceIte]
      refine s_reg1 ?_
      simp only [o_pure, o_nil, POp.ev, Opd.ev, gv, setD, List.set, Option.some.injEq, exists_eq_left']
      simp +decide only [p_seq_normal, p_block_normal]
      refine s_reg1 ?_
      simp only [o_pure, o_nil, POp.ev, Opd.ev, gv, setD, List.set, Option.some.injEq, exists_eq_left', binV, ne_eq, not_true_eq_false, if_false, add1 (i := i) (by omega)]
      simp +decide only [p_seq_normal]
      refine Round.mk (j - 1) (by omega) ⟨i + 1, nx, _, _, _, _, _, _, _, _, _, by omega, ?_, hx.trans hx3, rfl⟩
      rw [htake, ← nxt_all]
      rw [List.take_length] at hg
      exact hg.own.slss
  · have hge : i = ds.length := by simp at hlt; omega
    subst hge
    refine s_exit1 ?_
    simp +decide only [p_seq_normal, p_seq_exit, p_block_exit, reduceIte]
    refine s_reg ?_
    simp only [o_pure, o_nil, POp.ev, Opd.ev, gv, setD, List.set, Option.some.injEq, exists_eq_left']
    refine s_ret1 ?_
    simp +decide only [p_fin_ret, resV, resOne, gv, Option.some.injEq, exists_eq_left']
    rw [List.take_length] at ho
    exact ⟨ho, hx⟩
end Go.Proofs.Ytaimceodhhgnnaa

/- Bernstein coefficients, plain law of the program's sums; no condition. -/
namespace Go.Proofs.Ytaimceodhhgnnaa
open Go.Ab Ints
set_option linter.unusedSimpArgs false
set_option linter.unusedVariables false

theorem prodP_take : ∀ (xs : List Ax) (es js : List Nat) (u : Nat) (hu : u < xs.length), es.length = xs.length → js.length = xs.length →
    prodP (xs.take (u + 1)) (es.take (u + 1)) (js.take (u + 1)) = prodP (xs.take u) (es.take u) (js.take u) * prt xs[u].lo xs[u].hi (es.getD u 0) (js.getD u 0)
  | [], _, _, _, hu, _, _ => by simp at hu
  | a :: xs, [], _, _, _, h, _ => by simp at h
  | a :: xs, e :: es, [], _, _, _, h => by simp at h
  | a :: xs, e :: es, j :: js, 0, _, _, _ => by simp [prodP]
  | a :: xs, e :: es, j :: js, u + 1, hu, h1, h2 => by
    simp only [List.take_succ_cons, prodP]
    rw [prodP_take xs es js u (by simpa using hu) (by simpa using h1) (by simpa using h2), Int.mul_assoc]
    simp
theorem prodW_take : ∀ (xs : List Ax) (is js : List Nat) (u : Nat) (hu : u < xs.length), is.length = xs.length → js.length = xs.length →
    prodW (xs.take (u + 1)) (is.take (u + 1)) (js.take (u + 1)) = prodW (xs.take u) (is.take u) (js.take u) * wgt xs[u].d (is.getD u 0) (js.getD u 0)
  | [], _, _, _, hu, _, _ => by simp at hu
  | a :: xs, [], _, _, _, h, _ => by simp at h
  | a :: xs, e :: es, [], _, _, _, h => by simp at h
  | a :: xs, e :: es, j :: js, 0, _, _, _ => by simp [prodW]
  | a :: xs, e :: es, j :: js, u + 1, hu, h1, h2 => by
    simp only [List.take_succ_cons, prodW]
    rw [prodW_take xs es js u (by simpa using hu) (by simpa using h1) (by simpa using h2), Int.mul_assoc]
    simp
/-- one number of the grid of powers, after some terms -/
def aF (n k : Nat) (p : List Tm) (L U : List Int) (i : Nat) (js : List Nat) : Int := wr (lsum (fun t => t.1 * prodP (axN p L U n) t.2 js) ((termsN n k p).take i))
/-- one coefficient, after some places -/
def oF (n k : Nat) (p : List Tm) (L U : List Int) (is : List Nat) (pl : List (List Nat)) : Int := wr (lsum (fun js => aF n k p L U p.length js * prodW (axN p L U n) is js) pl)
theorem termsN_length (n k : Nat) (p : List Tm) : (termsN n k p).length = p.length := by simp [termsN]
theorem aF_step {n k : Nat} {p : List Tm} {L U : List Int} {i : Nat} (hi : i < p.length) (js : List Nat) :
    aF n k p L U (i + 1) js = wr (aF n k p L U i js + wr ((tmC k (degA (-1) p) p[i]).1 * prodP (axN p L U n) ((tmC k (degA (-1) p) p[i]).2.take n) js)) := by
  unfold aF
  rw [List.take_succ_eq_append_getElem (by rw [termsN_length]; exact hi), lsum_append, wr_add]
  simp [termsN, lsum]
theorem oF_step {n k : Nat} {p : List Tm} {L U : List Int} (is js : List Nat) (pl : List (List Nat)) :
    oF n k p L U is (pl ++ [js]) = wr (oF n k p L U is pl + wr (aF n k p L U p.length js * prodW (axN p L U n) is js)) := by
  unfold oF
  rw [lsum_append, wr_add]
  simp [lsum]
theorem axN_length (p : List Tm) (L U : List Int) (n : Nat) : (axN p L U n).length = n := by simp [axN]
theorem axN_get {p : List Tm} {L U : List Int} {n u : Nat} (h : u < (axN p L U n).length) : (axN p L U n)[u] = axI p L U u := by simp [axN]
theorem axN_d (p : List Tm) (L U : List Int) (n : Nat) : (axN p L U n).map (·.d) = (List.range n).map (dgI p) := by
  simp [axN, axI, Function.comp_def]
theorem termsN_two {n k : Nat} {p : List Tm} (hn : n ≤ 3) : ∀ t ∈ termsN n k p, t.2.length = n := by
  intro t ht
  obtain ⟨u, _, rfl⟩ := List.mem_map.1 ht
  simp [tmC]
  omega
/-- all places: the coefficient -/
theorem oF_all {n k : Nat} {p : List Tm} {L U : List Int} (hn : n ≤ 3) {is : List Nat} (his : is.length = n) :
    oF n k p L U is (placesL ((axN p L U n).map (·.d))) = wr (coef (termsN n k p) (axN p L U n) is) := by
  unfold oF aF
  rw [show p.length = (termsN n k p).length from (termsN_length n k p).symm, List.take_length]
  rw [← wr_lsum (fun js => wr (lsum (fun t => t.1 * prodP (axN p L U n) t.2 js) (termsN n k p)) * prodW (axN p L U n) is js)]
  simp only [wr_mul_l]
  rw [wr_lsum (fun js => lsum (fun t => t.1 * prodP (axN p L U n) t.2 js) (termsN n k p) * prodW (axN p L U n) is js)]
  congr 1
  have e1 : ∀ js, lsum (fun t => t.1 * prodP (axN p L U n) t.2 js) (termsN n k p) * prodW (axN p L U n) is js = lsum (fun t => t.1 * (prodP (axN p L U n) t.2 js * prodW (axN p L U n) is js)) (termsN n k p) := by
    intro js
    rw [← lsum_mul_r]
    exact lsum_congr fun t _ => Int.mul_assoc _ _ _
  simp only [e1]
  rw [lsum_swap]
  unfold coef
  refine lsum_congr fun t ht => ?_
  rw [lsum_mul, dist _ _ _ (by rw [axN_length]; exact termsN_two hn t ht) (by rw [axN_length]; exact his)]
end Go.Proofs.Ytaimceodhhgnnaa

/- Bernstein coefficients, the program: the grid of powers; no condition beyond stated ranges. -/
namespace Go.Proofs.Ytaimceodhhgnnaa
open Go.Ab Ints
set_option linter.unusedSimpArgs false
set_option linter.unusedVariables false

/-- what stands while a term is laid into the grid -/
structure BnS (H2 H' : AHeap) (b q r : Nat) (av : Value) (A : List Int) (t : Tm) : Prop where
  ext : Ext H2 H'
  vec : VecI H' b av A
  bq : H'.blk q = some (tc t)
  br : H'.blk r = some [vi t.x, vi t.y, vi t.z]
  lt : q < H'.next ∧ r < H'.next
  ne : q ≠ b ∧ r ≠ b
theorem BnS.mono {H2 H' H'' : AHeap} {b q r : Nat} {av : Value} {A : List Int} {t : Tm} (h : BnS H2 H' b q r av A t) (hx : Ext H' H'') : BnS H2 H'' b q r av A t := by
  obtain ⟨h1, h2, h3, h4, h5, h6⟩ := h
  have := hx.next
  exact ⟨h1.trans hx, Vec.ext h2 hx, by rw [hx.blk _ h5.1]; exact h3, by rw [hx.blk _ h5.2]; exact h4, by omega, h6⟩
theorem BnS.put {lim : Nat} {H2 H' : AHeap} {b q r : Nat} {av : Value} {A : List Int} {t : Tm} (h : BnS H2 H' b q r av A t) (hl : lim ≤ b) (hb : H2.next ≤ b) {i : Nat} (hi : i < A.length) (x : Int) :
    ∃ cs, storeH lim H' 1 (.pointer (some ⟨b, i, none⟩)) (.int .i64 x) = some (undef, H'.put b cs) ∧ BnS H2 (H'.put b cs) b q r av (A.set i x) t := by
  obtain ⟨h1, h2, h3, h4, h5, h6⟩ := h
  obtain ⟨cs, g1, g2⟩ := VecI.put (lim := lim) h2 hl hi x
  exact ⟨cs, g1, Chg.ext h1 (Chg.put _ _ _) hb, g2, by rw [put_ne _ _ h6.1]; exact h3, by rw [put_ne _ _ h6.2]; exact h4, h5, h6⟩
theorem shl_c {k m : Nat} (c : Int) (h : k * m ≤ 60) : ¬ (((k * m : Nat) : Int) < 0) ∧ IntKind.i64.wrap (c * 2 ^ min ((k * m : Nat) : Int).toNat IntKind.i64.bits) = wr (c * ((2 : Int) ^ k) ^ m) := by
  have : min ((k * m : Nat) : Int).toNat IntKind.i64.bits = k * m := by
    show min ((k * m : Nat) : Int).toNat 64 = k * m
    omega
  rw [this, Int.pow_mul]
  exact ⟨by omega, rfl⟩
/-- the grid of powers, where terms before i are laid at all places, and term i at those before x -/
def gA (n k : Nat) (p : List Tm) (L U : List Int) (PL : List (List Nat)) (i x : Nat) : List Int := (List.range PL.length).map fun y => if y < x then aF n k p L U (i + 1) (PL.getD y []) else aF n k p L U i (PL.getD y [])
theorem gA_length (n k : Nat) (p : List Tm) (L U : List Int) (PL : List (List Nat)) (i x : Nat) : (gA n k p L U PL i x).length = PL.length := by simp [gA]
theorem gA_at {n k : Nat} {p : List Tm} {L U : List Int} {PL : List (List Nat)} {i x : Nat} (h : x < PL.length) : (gA n k p L U PL i x).getD x 0 = aF n k p L U i (PL.getD x []) := by simp [gA, h]
theorem gA_zero {n k : Nat} {p : List Tm} {L U : List Int} {PL : List (List Nat)} {i y : Nat} (h : y < PL.length) : (gA n k p L U PL i 0).getD y 0 = aF n k p L U i (PL.getD y []) := by simp [gA, h]
theorem gA_set {n k : Nat} {p : List Tm} {L U : List Int} {PL : List (List Nat)} {i x : Nat} (h : x < PL.length) : (gA n k p L U PL i x).set x (aF n k p L U (i + 1) (PL.getD x [])) = gA n k p L U PL i (x + 1) := by
  unfold gA
  have es := set_map_range (n := PL.length) (u := x) (fun y => if y < x then aF n k p L U (i + 1) (PL.getD y []) else aF n k p L U i (PL.getD y [])) (fun y => if y < x + 1 then aF n k p L U (i + 1) (PL.getD y []) else aF n k p L U i (PL.getD y [])) h (fun y hy hne => by
    by_cases h : y < x
    · simp [h, show y < x + 1 by omega]
    · simp [h, show ¬ y < x + 1 by omega])
  simp only [show x < x + 1 by omega, if_true] at es
  exact es
theorem gA_next (n k : Nat) (p : List Tm) (L U : List Int) (PL : List (List Nat)) (i : Nat) : gA n k p L U PL i PL.length = gA n k p L U PL (i + 1) 0 := by
  unfold gA
  refine List.map_congr_left fun y hy => ?_
  rw [if_pos (List.mem_range.1 hy), if_neg (by omega)]

theorem ints_zl (p : List Tm) (L U : List Int) (n : Nat) : ((List.range n).map fun (k : Nat) => degF k 0 p) = zl ((axN p L U n).map (·.d)) := by
  rw [axN_d, zl, List.map_map]
  exact List.map_congr_left fun k _ => (dgI_int p k).symm
theorem zl_at {H : AHeap} {v : Value} {l : List Nat} (h : SlI H v (zl l)) {i : Nat} (hi : i < l.length) : ∃ b o, iadV 1 v (.int .i64 i) = some (.pointer (some ⟨b, o, none⟩)) ∧ H.cell b o = some (.int .i64 ((l.getD i 0 : Nat) : Int)) := by
  obtain ⟨b, o, h1, _, h3⟩ := SlI.get h (i := i) (by rw [zl_length]; exact hi)
  refine ⟨b, o, h1, ?_⟩
  rw [h3]
  simp [zl, hi]
theorem ints_at {H : AHeap} {v : Value} {l : List Int} (h : SlI H v l) {i : Nat} (hi : i < l.length) : ∃ b o, iadV 1 v (.int .i64 i) = some (.pointer (some ⟨b, o, none⟩)) ∧ H.cell b o = some (.int .i64 (l.getD i 0)) := by
  obtain ⟨b, o, h1, _, h3⟩ := SlI.get h hi
  refine ⟨b, o, h1, ?_⟩
  rw [h3]
  simp [hi]
theorem ex_nat {t : Tm} {k : Nat} {deg : Int} (h : 0 ≤ t.x ∧ t.x ≤ 4 ∧ 0 ≤ t.y ∧ t.y ≤ 4 ∧ 0 ≤ t.z ∧ t.z ≤ 4) {n u : Nat} (hu : u < n) (hn : n ≤ 3) : ∃ e : Nat, ex t u = e ∧ e ≤ 4 ∧ ((tmC k deg t).2.take n).getD u 0 = e := by
  have h3 : u = 0 ∨ u = 1 ∨ u = 2 := by omega
  rcases h3 with rfl | rfl | rfl
  · refine ⟨t.x.toNat, by simp [ex]; omega, by omega, ?_⟩
    match n, hu with
    | n + 1, _ => simp [tmC]
  · refine ⟨t.y.toNat, by simp [ex]; omega, by omega, ?_⟩
    match n, hu with
    | n + 2, _ => simp [tmC]
  · refine ⟨t.z.toNat, by simp [ex]; omega, by omega, ?_⟩
    match n, hu with
    | n + 3, _ => simp [tmC]
theorem tm_two {k n : Nat} {deg : Int} {t : Tm} (hn : n ≤ 3) : ((tmC k deg t).2.take n).length = n := by simp [tmC]; omega
theorem places_bound {ms l : List Nat} (h : l ∈ placesL ms) (hm : ∀ m ∈ ms, m ≤ 4) {u : Nat} (hu : u < ms.length) : l.getD u 0 ≤ ms.getD u 0 ∧ ms.getD u 0 ≤ 4 := by
  obtain ⟨h1, h2⟩ := mem_placesL.1 h
  have e1 : ms[u]? = some ms[u] := List.getElem?_eq_getElem hu
  have e2 : l[u]? = some (l[u]'(by omega)) := List.getElem?_eq_getElem (by omega)
  have := h2 u _ _ e2 e1
  have h4 := hm _ (List.getElem_mem hu)
  simp only [List.getD_eq_getElem?_getD, e1, e2, Option.getD_some]
  exact ⟨this, h4⟩
theorem wgtI_code : ∀ d : Fin 5, ∀ i : Fin 5, ∀ j : Fin 5, i.val ≤ d.val → j.val ≤ d.val → chs d.val j.val ≠ 0 ∧ wr (wr ((fac d.val : Int).tdiv (chs d.val j.val : Int)) * (chs i.val j.val : Int)) = wgt d.val i.val j.val := by decide +kernel
/-- the coefficients, where those before x are told, and that at x after the first y places -/
def oG (n k : Nat) (p : List Tm) (L U : List Int) (PL : List (List Nat)) (x y : Nat) : List Int := (List.range PL.length).map fun z => if z < x then oF n k p L U (PL.getD z []) PL else if z = x then oF n k p L U (PL.getD z []) (PL.take y) else 0
theorem oG_length (n k : Nat) (p : List Tm) (L U : List Int) (PL : List (List Nat)) (x y : Nat) : (oG n k p L U PL x y).length = PL.length := by simp [oG]
theorem oG_at {n k : Nat} {p : List Tm} {L U : List Int} {PL : List (List Nat)} {x y : Nat} (h : x < PL.length) : (oG n k p L U PL x y).getD x 0 = oF n k p L U (PL.getD x []) (PL.take y) := by simp [oG, h]
theorem oG_set {n k : Nat} {p : List Tm} {L U : List Int} {PL : List (List Nat)} {x y : Nat} (h : x < PL.length) : (oG n k p L U PL x y).set x (oF n k p L U (PL.getD x []) (PL.take (y + 1))) = oG n k p L U PL x (y + 1) := by
  unfold oG
  have es := set_map_range (n := PL.length) (u := x) (fun z => if z < x then oF n k p L U (PL.getD z []) PL else if z = x then oF n k p L U (PL.getD z []) (PL.take y) else 0) (fun z => if z < x then oF n k p L U (PL.getD z []) PL else if z = x then oF n k p L U (PL.getD z []) (PL.take (y + 1)) else 0) h (fun z hz hne => by simp [hne])
  simp only [show ¬ x < x by omega, if_true, if_false] at es
  exact es
theorem oG_next (n k : Nat) (p : List Tm) (L U : List Int) (PL : List (List Nat)) (x : Nat) : oG n k p L U PL x PL.length = oG n k p L U PL (x + 1) 0 := by
  unfold oG
  refine List.map_congr_left fun z hz => ?_
  by_cases h1 : z < x
  · rw [if_pos h1, if_pos (by omega)]
  · rw [if_neg h1]
    by_cases h2 : z = x
    · subst h2
      rw [if_pos rfl, if_pos (by omega), List.take_length]
    · rw [if_neg h2, if_neg (by omega)]
      split <;> rfl
theorem oG_zero (n k : Nat) (p : List Tm) (L U : List Int) (PL : List (List Nat)) : List.replicate PL.length (0 : Int) = oG n k p L U PL 0 0 := by
  unfold oG
  refine List.ext_getElem (by simp) fun z h1 h2 => ?_
  simp only [List.getElem_replicate, List.getElem_map, List.getElem_range]
  rw [if_neg (by omega)]
  split <;> rfl
theorem oG_all {n k : Nat} {p : List Tm} {L U : List Int} {PL : List (List Nat)} (g : List Nat → Int) (h : ∀ is ∈ PL, oF n k p L U is PL = g is) : oG n k p L U PL PL.length 0 = PL.map g := by
  unfold oG
  refine List.ext_getElem (by simp) fun z h1 h2 => ?_
  simp only [List.getElem_map, List.getElem_range]
  have hz : z < PL.length := by simpa using h1
  rw [if_pos hz, ← h _ (List.getElem_mem hz)]
  simp [hz]
theorem bernstein_ok (lim : Nat) (s lo hi : Value) (p : List Tm) (L U : List Int) (k n : Nat) (H : AHeap) (hl : lim ≤ H.next) (hs : SlT H s p) (hlo : SlI H lo L) (hhi : SlI H hi U)
    (hg : goodP p = true) (hk : k ≤ 4) (hn3 : n ≤ 3) (hL : L.length = n) (hU : U.length = n) :
    ACalls Try.prog lim n_impl_bernstein [s, .int .i64 k, lo, hi] H fun v H' => ∃ b, VecI H' b v ((placesL ((axN p L U n).map (·.d))).map fun is => wr (coef (termsN n k p) (axN p L U n) is)) ∧ Ext H H' := by
  obtain ⟨gg1, gg2, gg3⟩ := goodP_ok hg
  have hbd : ∀ t ∈ p, 0 ≤ t.x ∧ t.x ≤ 4 ∧ 0 ≤ t.y ∧ t.y ≤ 4 ∧ 0 ≤ t.z ∧ t.z ≤ 4 := fun t ht => (gg1 t ht).2
  have hd := dgI_le hbd
  have hds : ∀ m ∈ (axN p L U n).map (·.d), m ≤ 4 := by
    rw [axN_d]
    intro m hm
    obtain ⟨j, _, rfl⟩ := List.mem_map.1 hm
    exact hd j
  have hdl : ((axN p L U n).map (·.d)).length = n := by rw [List.length_map, axN_length]
  have hN : (placesL ((axN p L U n).map (·.d))).length ≤ 125 := by
    have h1 := placesL_length hds
    have h2 : (5 : Nat) ^ ((axN p L U n).map (·.d)).length ≤ 5 ^ 3 := Nat.pow_le_pow_right (by decide) (by omega)
    omega
  refine is_impl_bernstein.go rfl ?_
  unfold c_impl_bernstein
  refine s_reg ?_
  simp only [o_pure, o_nil, POp.ev, Opd.ev, env0, gu, setD, List.set, Option.some.injEq, exists_eq_left']
  have hll := hlo.lenV
  rw [hL] at hll
  refine s_reg ?_
  simp only [o_pure, o_nil, POp.ev, Opd.ev, gv, setD, List.set, Option.some.injEq, exists_eq_left', hll]
  refine s_reg ?_
  simp only [o_pure, o_callF, POp.ev, Opd.ev, gv, setD, List.map, Option.some.injEq, exists_eq_left']
  refine (degreesOf_ok lim s p n H hl hs (by omega) hn3).mono ?_
  rintro dv H1 ⟨c, hc1, hc2, hdv, hx1⟩
  rw [ints_zl p L U n] at hdv
  have hn1 := hx1.next
  simp only [o_cont, o_pure, o_callF, POp.ev, Opd.ev, gv, setD, List.map, Option.some.injEq, exists_eq_left']
  refine (degreeOf_ok lim s p H1 (by omega) (hs.ext hx1) (by omega) hbd).mono ?_
  rintro _ H1' ⟨rfl, hx1'⟩
  have hn1' := hx1'.next
  simp only [o_cont, o_pure, o_nil, POp.ev, Opd.ev, gv, setD, List.set, Option.some.injEq, exists_eq_left']
  refine s_reg ?_
  simp only [o_pure, o_callF, POp.ev, Opd.ev, gv, setD, List.map, Option.some.injEq, exists_eq_left']
  refine (places_ok lim dv _ H1' (by omega) (Vec.sl (Vec.ext hdv hx1')) hds (by omega)).mono ?_
  rintro all H2 ⟨hall, hx2⟩
  have hn2 := hx2.next
  have hx12 := (hx1.trans hx1').trans hx2
  have hdv2 : SlI H2 dv (zl ((axN p L U n).map (·.d))) := Vec.sl (Vec.ext (Vec.ext hdv hx1') hx2)
  have hs2 := hs.ext hx12
  have hlo2 := SlI.ext hlo hx12
  have hhi2 := SlI.ext hhi hx12
  have hnH2 := hx12.next
  have hiE : ∀ is ∈ placesL ((axN p L U n).map (·.d)), is.length = n := fun is h => by rw [placesL_len _ _ h, hdl]
  have hbE : ∀ is ∈ placesL ((axN p L U n).map (·.d)), ∀ u, u < n → is.getD u 0 ≤ dgI p u ∧ is.getD u 0 ≤ 4 := fun is h u hu => by
    have h1 := places_bound h hds (u := u) (by omega)
    have h2 : ((axN p L U n).map (·.d)).getD u 0 = dgI p u := by rw [axN_d]; simp [hu]
    rw [h2] at h1
    omega
  have hFin : ∀ is ∈ placesL ((axN p L U n).map (·.d)), oF n k p L U is (placesL ((axN p L U n).map (·.d))) = wr (coef (termsN n k p) (axN p L U n) is) := fun is h => oF_all hn3 (hiE is h)
  have hdg : ∀ u, u < n → ((axN p L U n).map (·.d)).getD u 0 = dgI p u := fun u hu => by rw [axN_d]; simp [hu]
  generalize hDS : (axN p L U n).map (·.d) = DS at *
  generalize placesL DS = PL at *
  simp only [o_cont, o_pure, o_nil, POp.ev, Opd.ev, gv, setD, List.set, Option.some.injEq, exists_eq_left']
  have hmk := mkslice_int (H := H2) 8 PL.length PL.length [.int .i64 0] (Nat.le_refl _) (by omega) (by omega)
  rw [zerosL_one] at hmk
  have hal := hall.lenV
  rw [List.length_map] at hal
  refine s_reg ?_
  simp only [o_pure, o_eff, o_nil, POp.ev, Opd.ev, EOp.ev, gv, setD, List.set, Option.some.injEq, exists_eq_left', hal, hmk]
  have hv := VecI.mk' H2 PL.length
  have hx3 := Ext.alloc H2 (List.replicate PL.length (Value.int .i64 0))
  have hbl : H2.next < (H2.alloc (List.replicate PL.length (Value.int .i64 0))).next := Nat.lt_succ_self _
  generalize H2.alloc (List.replicate PL.length (Value.int .i64 0)) = H3 at hv hx3 hbl ⊢
  generalize (Value.slice (some ⟨H2.next, 0, some 0⟩) PL.length PL.length) = av at hv ⊢
  have e0 : List.replicate PL.length (0 : Int) = gA n k p L U PL 0 0 := by
    unfold gA
    refine List.ext_getElem (by simp) fun x h1 h2 => ?_
    simp [aF, lsum, wr]
    rfl
  rw [e0] at hv
  generalize hbE2 : H2.next = b at hv hbl
  refine s_cut (fun e' H' => ∃ (y10 y11 y12 y13 y14 y15 y16 y17 y28 y29 y30 y31 y32 y33 y34 y35 y36 y37 : Value), VecI H' b av (gA n k p L U PL p.length 0) ∧ Ext H2 H' ∧ b < H'.next ∧ e' = [s, .int .i64 k, lo, hi, .slice none 0 0, .int .i64 n, dv, .int .i64 (degA (-1) p), all, av, y10, y11, y12, y13, y14, y15, y16, y17, undef, undef, undef, undef, undef, undef, undef, s, .int .i64 p.length, .int .i64 p.length, y28, y29, y30, y31, y32, y33, y34, y35, y36, y37, undef, undef, undef, undef, undef, undef, undef, undef]) ?_ ?_
  · refine s_reg ?_
    simp only [o_pure, o_nil, POp.ev, Opd.ev, gv, setD, List.set, Option.some.injEq, exists_eq_left', hs2.lenV]
    refine s_block1 ?_
    refine s_loop1 (fun j e' H' => ∃ (i : Nat) (y10 y11 y12 y13 y14 y15 y16 y17 y28 y29 y30 y31 y32 y33 y34 y35 y36 y37 : Value), i + j = p.length ∧ VecI H' b av (gA n k p L U PL i 0) ∧ Ext H2 H' ∧ b < H'.next ∧ e' = [s, .int .i64 k, lo, hi, .slice none 0 0, .int .i64 n, dv, .int .i64 (degA (-1) p), all, av, y10, y11, y12, y13, y14, y15, y16, y17, undef, undef, undef, undef, undef, undef, undef, s, .int .i64 p.length, .int .i64 i, y28, y29, y30, y31, y32, y33, y34, y35, y36, y37, undef, undef, undef, undef, undef, undef, undef, undef]) p.length ⟨0, _, _, _, _, _, _, _, _, _, _, _, _, _, _, _, _, _, _, by omega, hv, hx3, hbl, rfl⟩ ?_
    clear hv hx3 hbl
    rintro j e' H4 ⟨i, y10, y11, y12, y13, y14, y15, y16, y17, y28, y29, y30, y31, y32, y33, y34, y35, y36, y37, hij, hv, hx, hbl, rfl⟩
    have hnx := hx.next
    refine s_test ?_
    simp only [o_pure, o_nil, POp.ev, Opd.ev, gv, setD, Option.some.injEq, exists_eq_left', binV, ne_eq, not_true_eq_false, if_false]
    refine Test.split (fun hlt => ?_) (fun hlt => ?_)
    · have hip : i < p.length := by simpa using hlt
      obtain ⟨b1, o1, h1, hat⟩ := (hs2.ext hx).at hip
      have hbi := hbd _ (List.getElem_mem hip)
      have hdi := (gg1 _ (List.getElem_mem hip)).1.2.2.2.2
      refine s_skip1 ?_
      simp +decide only [p_seq_normal]
      refine s_block1 ?_
      refine s_reg ?_
      simp only [o_pure, o_eff, o_nil, POp.ev, Opd.ev, EOp.ev, gv, setD, List.set, Option.some.injEq, exists_eq_left', h1, hat.all, store4_new (lim := lim) (H := H4) (by omega)]
      have hB := BoxT.mk' H4 p[i]
      generalize H4.alloc (tc p[i]) = H5 at hB ⊢
      generalize H4.next = q at hB hnx hbl ⊢
      have hxB := hB.ext
      have hnB := hxB.next
      have hlB := hB.lt
      have hgB := hB.ge
      have hbB := hB.blk
      refine s_reg ?_
      simp only [o_pure, o_callF, POp.ev, Opd.ev, gv, setD, List.map, Option.some.injEq, exists_eq_left', hB.all]
      refine (exponents_ok lim _ _ (by omega)).mono ?_
      rintro _ H6 ⟨rfl, hx6⟩
      have hn6 := hx6.next
      simp only [o_cont, o_eff, o_nil, Opd.ev, EOp.ev, gv, setD, List.set, Option.some.injEq, exists_eq_left', expV_agg, store3_new (lim := lim) (H := H6) (by omega)]
      have hq : (H6.alloc [vi p[i].x, vi p[i].y, vi p[i].z]).blk H6.next = some [vi p[i].x, vi p[i].y, vi p[i].z] := alloc_new _ _
      have hx7 := Ext.alloc H6 [vi p[i].x, vi p[i].y, vi p[i].z]
      have hlt7 : H6.next < (H6.alloc [vi p[i].x, vi p[i].y, vi p[i].z]).next := Nat.lt_succ_self _
      generalize H6.alloc [vi p[i].x, vi p[i].y, vi p[i].z] = H7 at hq hx7 hlt7 ⊢
      generalize H6.next = r at hq hlt7 hn6 ⊢
      have hxa := (hxB.trans hx6).trans hx7
      have hbq7 : H7.blk q = some (tc p[i]) := by rw [(hx6.trans hx7).blk _ hlB]; exact hbB
      have hS : BnS H2 H7 b q r av (gA n k p L U PL i 0) p[i] := ⟨hx.trans hxa, Vec.ext hv hxa, hbq7, hq, ⟨by omega, hlt7⟩, by omega, by omega⟩
      clear hbq7 hq hlt7 hxa hx7 hx6 hB hxB hbB hv
      refine s_reg ?_
      simp only [o_pure, o_nil, POp.ev, Opd.ev, gv, setD, List.set, Option.some.injEq, exists_eq_left', hal]
      refine s_block1 ?_
      refine s_loop1 (fun j e' H' => ∃ (x : Nat) (y12 y13 y14 y15 y16 y17 y31 y32 y33 y34 y35 y36 y37 : Value), x + j = PL.length ∧ BnS H2 H' b q r av (gA n k p L U PL i x) p[i] ∧ e' = [s, .int .i64 k, lo, hi, .slice none 0 0, .int .i64 n, dv, .int .i64 (degA (-1) p), all, av, .pointer (some ⟨q, 0, none⟩), .pointer (some ⟨r, 0, none⟩), y12, y13, y14, y15, y16, y17, undef, undef, undef, undef, undef, undef, undef, s, .int .i64 p.length, .int .i64 i, all, .int .i64 PL.length, .int .i64 x, y31, y32, y33, y34, y35, y36, y37, undef, undef, undef, undef, undef, undef, undef, undef]) PL.length ⟨0, _, _, _, _, _, _, _, _, _, _, _, _, _, by omega, hS, rfl⟩ ?_
      clear hS
      rintro j2 e' H8 ⟨x, y12, y13, y14, y15, y16, y17, y31, y32, y33, y34, y35, y36, y37, hxj, hS, rfl⟩
      have hx8 := hS.ext
      have hn8 := hx8.next
      refine s_test ?_
      simp only [o_pure, o_nil, POp.ev, Opd.ev, gv, setD, Option.some.injEq, exists_eq_left', binV, ne_eq, not_true_eq_false, if_false]
      refine Test.split (fun hlt2 => ?_) (fun hlt2 => ?_)
      · have hxl : x < PL.length := by simpa using hlt2
        have hjm := List.getElem_mem hxl
        have hgx : PL.getD x [] = PL[x] := by simp [hxl]
        obtain ⟨b2, o2, pw, w2, w3⟩ := hall.atx (i := x) (by rw [List.length_map]; exact hxl)
        simp only [List.getElem_map] at w3
        have hjl := hiE _ hjm
        have hjb := hbE _ hjm
        obtain ⟨m, hm⟩ : ∃ m : Nat, degA (-1) p - (p[i].x + p[i].y + p[i].z) = m := ⟨(degA (-1) p - (p[i].x + p[i].y + p[i].z)).toNat, by omega⟩
        have hm5 : m ≤ 4 := by omega
        have hkm : k * m ≤ 4 * 4 := Nat.mul_le_mul hk hm5
        have f1 : IntKind.i64.wrap (degA (-1) p - (p[i].x + p[i].y + p[i].z)) = (m : Int) := by rw [hm]; exact wr_nat (by omega)
        have f2 : IntKind.i64.wrap ((k : Int) * (m : Int)) = ((k * m : Nat) : Int) := wr_nat (n := k * m) (by omega)
        obtain ⟨f3, f4⟩ := shl_c (k := k) (m := m) p[i].c (by omega)
        have hct : p[i].c * ((2 : Int) ^ k) ^ m = (tmC k (degA (-1) p) p[i]).1 := by
          unfold tmC
          rw [show (degA (-1) p - p[i].x - p[i].y - p[i].z).toNat = m by omega]
        rw [hct] at f4
        refine s_skip1 ?_
        simp +decide only [p_seq_normal]
        refine s_block1 ?_
        refine s_reg ?_
        simp only [o_pure, o_nil, POp.ev, Opd.ev, gv, setD, List.set, Option.some.injEq, exists_eq_left', load1V, w2, (w3 _ hx8).1]
        refine s_reg ?_
        simp only [o_pure, o_callN, POp.ev, Opd.ev, gv, setD, List.map, Option.some.injEq, exists_eq_left', load1V, fadV, List.getElem?_cons_zero, Nat.zero_add, cell_blk hS.bq, load4 hS.bq, tc]
        refine (degree_ok _ p[i] H8 ⟨hbi.1, hbi.2.1⟩ ⟨hbi.2.2.1, hbi.2.2.2.1⟩ hbi.2.2.2.2).use ?_
        rintro _ H9 ⟨rfl, hx9⟩ _
        replace hS := hS.mono hx9
        simp only [o_cont, o_pure, o_nil, POp.ev, Opd.ev, gv, setD, List.set, Option.some.injEq, exists_eq_left', binV, ne_eq, not_true_eq_false, if_false, f1, f2, f3, f4]
        refine s_assoc (s_reg ?_)
        simp only [o_pure, o_nil, POp.ev, Opd.ev, gv, setD, List.set, Option.map_none, Option.map_some, Option.some.injEq, exists_eq_left', aslc_to hn3, lenV]
        have hx9' := hS.ext
        refine s_block ?_
        refine s_loop1 (fun j e' H' => ∃ (u : Nat) (y15 y16 y17 y34 y35 y36 y37 : Value), u + j = n ∧ H' = H9 ∧ e' = [s, .int .i64 k, lo, hi, .slice none 0 0, .int .i64 n, dv, .int .i64 (degA (-1) p), all, av, .pointer (some ⟨q, 0, none⟩), .pointer (some ⟨r, 0, none⟩), .int .i64 x, pw, .int .i64 (wr ((tmC k (degA (-1) p) p[i]).1 * prodP ((axN p L U n).take u) (((tmC k (degA (-1) p) p[i]).2.take n).take u) (PL[x].take u))), y15, y16, y17, undef, undef, undef, undef, undef, undef, undef, s, .int .i64 p.length, .int .i64 i, all, .int .i64 PL.length, .int .i64 x, .slice (some ⟨r, 0, some 0⟩) n 3, .int .i64 n, .int .i64 u, y34, y35, y36, y37, undef, undef, undef, undef, undef, undef, undef, undef]) n ⟨0, _, _, _, _, _, _, _, by omega, rfl, by simp only [List.take_zero, prodP, Int.mul_one]; rfl⟩ ?_
        rintro j3 e' H9 ⟨u, y15, y16, y17, y34, y35, y36, y37, huj, rfl, rfl⟩
        refine s_test ?_
        simp only [o_pure, o_nil, POp.ev, Opd.ev, gv, setD, Option.some.injEq, exists_eq_left', binV, ne_eq, not_true_eq_false, if_false]
        refine Test.split (fun hlt3 => ?_) (fun hlt3 => ?_)
        · have hun : u < n := by simpa using hlt3
          obtain ⟨e, he, he4, hee⟩ := ex_nat (k := k) (deg := degA (-1) p) hbi hun hn3
          have hcell := ex_cell hS.br (show u < 3 by omega)
          rw [he] at hcell
          obtain ⟨b3, o3, u1, u2⟩ := zl_at ((w3 _ hx9').2) (i := u) (by omega)
          have hj4 := (hjb u hun).2
          have hax : u < (axN p L U n).length := by rw [axN_length]; exact hun
          have hstep := prodP_take (axN p L U n) ((tmC k (degA (-1) p) p[i]).2.take n) PL[x] u hax (by rw [axN_length]; exact tm_two hn3) (by rw [axN_length]; exact hjl)
          rw [axN_get hax, hee] at hstep
          have hlx : (axI p L U u).lo = L.getD u 0 := rfl
          have hhx : (axI p L U u).hi = U.getD u 0 := rfl
          rw [hlx, hhx] at hstep
          obtain ⟨b4, o4, l1, l2⟩ := ints_at (SlI.ext hlo2 hx9') (i := u) (by omega)
          obtain ⟨b5, o5, m1, m2⟩ := ints_at (SlI.ext hhi2 hx9') (i := u) (by omega)
          refine s_skip1 ?_
          simp +decide only [p_seq_normal]
          refine s_block1 ?_
          refine s_reg ?_
          simp only [o_pure, o_nil, POp.ev, Opd.ev, gv, setD, List.set, Option.some.injEq, exists_eq_left', load1V, iad_cell (i := u) .i64 hun, hcell]
          refine s_reg ?_
          simp only [o_pure, o_nil, POp.ev, Opd.ev, gv, setD, List.set, Option.some.injEq, exists_eq_left', load1V, u1, u2]
          have f5 : IntKind.i64.wrap (wr ((tmC k (degA (-1) p) p[i]).1 * prodP ((axN p L U n).take u) (((tmC k (degA (-1) p) p[i]).2.take n).take u) (PL[x].take u)) * (chs e (PL[x].getD u 0) : Int)) = wr (((tmC k (degA (-1) p) p[i]).1 * prodP ((axN p L U n).take u) (((tmC k (degA (-1) p) p[i]).2.take n).take u) (PL[x].take u)) * (chs e (PL[x].getD u 0) : Int)) := wr_mul_l _ _
          refine s_reg ?_
          simp only [o_pure, o_callF, POp.ev, Opd.ev, gv, setD, List.map, Option.some.injEq, exists_eq_left']
          refine (iChoose_ok lim e (PL[x].getD u 0) H9 he4 hj4).eq ?_
          simp only [o_cont, o_pure, o_nil, POp.ev, Opd.ev, gv, setD, List.set, Option.some.injEq, exists_eq_left', binV, ne_eq, not_true_eq_false, if_false, f5]
          refine s_assoc (s_reg ?_)
          simp only [o_pure, o_nil, POp.ev, Opd.ev, gv, setD, List.set, Option.some.injEq, exists_eq_left']
          refine s_block ?_
          refine s_loop1 (fun j e' H'' => ∃ (q1 : Nat) (y36 y37 : Value), q1 + j = PL[x].getD u 0 ∧ H'' = H9 ∧ e' = [s, .int .i64 k, lo, hi, .slice none 0 0, .int .i64 n, dv, .int .i64 (degA (-1) p), all, av, .pointer (some ⟨q, 0, none⟩), .pointer (some ⟨r, 0, none⟩), .int .i64 x, pw, .int .i64 (wr (((tmC k (degA (-1) p) p[i]).1 * prodP ((axN p L U n).take u) (((tmC k (degA (-1) p) p[i]).2.take n).take u) (PL[x].take u)) * (chs e (PL[x].getD u 0) : Int) * (U.getD u 0 - L.getD u 0) ^ q1)), .int .i64 u, .int .i64 (e : Nat), .int .i64 (PL[x].getD u 0 : Nat), undef, undef, undef, undef, undef, undef, undef, s, .int .i64 p.length, .int .i64 i, all, .int .i64 PL.length, .int .i64 x, .slice (some ⟨r, 0, some 0⟩) n 3, .int .i64 n, .int .i64 u, .int .i64 (PL[x].getD u 0 : Nat), .int .i64 (q1 : Nat), y36, y37, undef, undef, undef, undef, undef, undef, undef, undef]) (PL[x].getD u 0) ⟨0, _, _, by omega, rfl, by rw [Int.pow_zero, Int.mul_one]; rfl⟩ ?_
          rintro j4 e' H9 ⟨q1, y36, y37, hqj, rfl, rfl⟩
          refine s_test ?_
          simp only [o_pure, o_nil, POp.ev, Opd.ev, gv, setD, Option.some.injEq, exists_eq_left', binV, ne_eq, not_true_eq_false, if_false]
          refine Test.split (fun hlt4 => ?_) (fun hlt4 => ?_)
          · have hql : q1 < PL[x].getD u 0 := by have := of_decide_eq_true hlt4; omega
            have f6 : IntKind.i64.wrap (wr (((tmC k (degA (-1) p) p[i]).1 * prodP ((axN p L U n).take u) (((tmC k (degA (-1) p) p[i]).2.take n).take u) (PL[x].take u)) * (chs e (PL[x].getD u 0) : Int) * (U.getD u 0 - L.getD u 0) ^ q1) * IntKind.i64.wrap (U.getD u 0 - L.getD u 0)) = wr (((tmC k (degA (-1) p) p[i]).1 * prodP ((axN p L U n).take u) (((tmC k (degA (-1) p) p[i]).2.take n).take u) (PL[x].take u)) * (chs e (PL[x].getD u 0) : Int) * (U.getD u 0 - L.getD u 0) ^ (q1 + 1)) := by
              rw [Int.pow_succ, ← Int.mul_assoc]
              exact wr_mul _ _
            refine s_skip1 ?_
            simp +decide only [p_seq_normal]
            refine s_block1 ?_
            refine s_reg1 ?_
            simp only [o_pure, o_nil, POp.ev, Opd.ev, gv, setD, List.set, Option.some.injEq, exists_eq_left', binV, load1V, ne_eq, not_true_eq_false, if_false, l1, l2, m1, m2, f6]
            simp +decide only [p_seq_normal, p_block_normal]
            refine s_reg1 ?_
            simp only [o_pure, o_nil, POp.ev, Opd.ev, gv, setD, List.set, Option.some.injEq, exists_eq_left', binV, ne_eq, not_true_eq_false, if_false, add1 (i := q1) (by omega)]
            simp +decide only [p_seq_normal]
            exact Round.mk (j4 - 1) (by omega) ⟨q1 + 1, _, _, by omega, rfl, rfl⟩
          · have hqe : q1 = PL[x].getD u 0 := by have := of_decide_eq_false hlt4; omega
            subst hqe
            have f7 : IntKind.i64.wrap ((e : Int) - ((PL[x].getD u 0 : Nat) : Int)) = (e : Int) - ((PL[x].getD u 0 : Nat) : Int) := wr_id (by omega) (by omega)
            refine s_exit1 ?_
            simp +decide only [p_seq_normal, p_seq_exit, p_block_normal, p_block_exit, reduceIte]
            refine s_reg ?_
            simp only [o_pure, o_nil, POp.ev, Opd.ev, gv, setD, List.set, Option.some.injEq, exists_eq_left', binV, ne_eq, not_true_eq_false, if_false, f7]
            refine s_block1 ?_
            refine s_loop1 (fun j e' H'' => ∃ (q1 : Nat), q1 + j = e - PL[x].getD u 0 ∧ H'' = H9 ∧ e' = [s, .int .i64 k, lo, hi, .slice none 0 0, .int .i64 n, dv, .int .i64 (degA (-1) p), all, av, .pointer (some ⟨q, 0, none⟩), .pointer (some ⟨r, 0, none⟩), .int .i64 x, pw, .int .i64 (wr (((tmC k (degA (-1) p) p[i]).1 * prodP ((axN p L U n).take u) (((tmC k (degA (-1) p) p[i]).2.take n).take u) (PL[x].take u)) * (chs e (PL[x].getD u 0) : Int) * (U.getD u 0 - L.getD u 0) ^ (PL[x].getD u 0) * L.getD u 0 ^ q1)), .int .i64 u, .int .i64 (e : Nat), .int .i64 (PL[x].getD u 0 : Nat), undef, undef, undef, undef, undef, undef, undef, s, .int .i64 p.length, .int .i64 i, all, .int .i64 PL.length, .int .i64 x, .slice (some ⟨r, 0, some 0⟩) n 3, .int .i64 n, .int .i64 u, .int .i64 (PL[x].getD u 0 : Nat), .int .i64 (PL[x].getD u 0 : Nat), .int .i64 ((e : Int) - (PL[x].getD u 0 : Nat)), .int .i64 (q1 : Nat), undef, undef, undef, undef, undef, undef, undef, undef]) (e - PL[x].getD u 0) ⟨0, by omega, rfl, by rw [Int.pow_zero, Int.mul_one]; rfl⟩ ?_
            rintro j5 e' H9 ⟨q1, hqj5, rfl, rfl⟩
            refine s_test ?_
            simp only [o_pure, o_nil, POp.ev, Opd.ev, gv, setD, Option.some.injEq, exists_eq_left', binV, ne_eq, not_true_eq_false, if_false]
            refine Test.split (fun hlt5 => ?_) (fun hlt5 => ?_)
            · have hql : q1 < e - PL[x].getD u 0 := by have := of_decide_eq_true hlt5; omega
              have f8 : IntKind.i64.wrap (wr (((tmC k (degA (-1) p) p[i]).1 * prodP ((axN p L U n).take u) (((tmC k (degA (-1) p) p[i]).2.take n).take u) (PL[x].take u)) * (chs e (PL[x].getD u 0) : Int) * (U.getD u 0 - L.getD u 0) ^ (PL[x].getD u 0) * L.getD u 0 ^ q1) * L.getD u 0) = wr (((tmC k (degA (-1) p) p[i]).1 * prodP ((axN p L U n).take u) (((tmC k (degA (-1) p) p[i]).2.take n).take u) (PL[x].take u)) * (chs e (PL[x].getD u 0) : Int) * (U.getD u 0 - L.getD u 0) ^ (PL[x].getD u 0) * L.getD u 0 ^ (q1 + 1)) := by
                rw [Int.pow_succ, ← Int.mul_assoc]
                exact wr_mul_l _ _
              refine s_skip1 ?_
              simp +decide only [p_seq_normal]
              refine s_block1 ?_
              refine s_reg1 ?_
              simp only [o_pure, o_nil, POp.ev, Opd.ev, gv, setD, List.set, Option.some.injEq, exists_eq_left', binV, load1V, ne_eq, not_true_eq_false, if_false, l1, l2, f8]
              simp +decide only [p_seq_normal, p_block_normal]
              refine s_reg1 ?_
              simp only [o_pure, o_nil, POp.ev, Opd.ev, gv, setD, List.set, Option.some.injEq, exists_eq_left', binV, ne_eq, not_true_eq_false, if_false, add1 (i := q1) (by omega)]
              simp +decide only [p_seq_normal]
              exact Round.mk (j5 - 1) (by omega) ⟨q1 + 1, by omega, rfl, rfl⟩
            · have hqe5 : q1 = e - PL[x].getD u 0 := by have := of_decide_eq_false hlt5; omega
              subst hqe5
              have f9 : ((tmC k (degA (-1) p) p[i]).1 * prodP ((axN p L U n).take u) (((tmC k (degA (-1) p) p[i]).2.take n).take u) (PL[x].take u)) * (chs e (PL[x].getD u 0) : Int) * (U.getD u 0 - L.getD u 0) ^ (PL[x].getD u 0) * L.getD u 0 ^ (e - PL[x].getD u 0) = ((tmC k (degA (-1) p) p[i]).1 * prodP ((axN p L U n).take (u + 1)) (((tmC k (degA (-1) p) p[i]).2.take n).take (u + 1)) (PL[x].take (u + 1))) := by
                rw [hstep]
                unfold prt
                simp only [Int.mul_assoc, Int.mul_comm, Int.mul_left_comm]
              rw [f9]
              refine s_exit1 ?_
              simp +decide only [p_seq_normal, p_seq_exit, p_block_normal, p_block_exit, reduceIte]
              refine s_reg1 ?_
              simp only [o_pure, o_nil, POp.ev, Opd.ev, gv, setD, List.set, Option.some.injEq, exists_eq_left', binV, ne_eq, not_true_eq_false, if_false, add1 (i := u) (by omega)]
              simp +decide only [p_seq_normal]
              exact Round.mk (j3 - 1) (by omega) ⟨u + 1, _, _, _, _, _, _, _, by omega, rfl, rfl⟩
        · have hun : u = n := by simp at hlt3; omega
          subst hun
          refine s_exit1 ?_
          simp +decide only [p_seq_normal, p_seq_exit, p_block_normal, p_block_exit, reduceIte]
          have t1 : (axN p L U u).take u = axN p L U u := List.take_of_length_le (by rw [axN_length]; exact Nat.le_refl _)
          have t2 : ((tmC k (degA (-1) p) p[i]).2.take u).take u = (tmC k (degA (-1) p) p[i]).2.take u := List.take_of_length_le (by rw [tm_two hn3]; exact Nat.le_refl _)
          have t3 : PL[x].take u = PL[x] := List.take_of_length_le (by rw [hjl]; exact Nat.le_refl _)
          rw [t1, t2, t3]
          obtain ⟨w4, w5⟩ := VecI.at hS.vec (i := x) (by rw [gA_length]; exact hxl)
          rw [gA_at hxl, hgx] at w5
          have f10 := (aF_step (n := u) (k := k) (L := L) (U := U) hip PL[x]).symm
          obtain ⟨cs, hst, hS'⟩ := hS.put (lim := lim) (by omega) (by omega) (i := x) (by rw [gA_length]; exact hxl) (aF u k p L U (i + 1) PL[x])
          rw [← hgx, gA_set hxl] at hS'
          simp only [wr] at f10
          refine s_reg1 ?_
          simp only [o_pure, o_eff, o_nil, POp.ev, Opd.ev, EOp.ev, gv, setD, Option.some.injEq, exists_eq_left', binV, load1V, ne_eq, not_true_eq_false, if_false, w4, w5, f10, hst]
          simp +decide only [p_seq_normal, p_block_normal]
          refine s_reg1 ?_
          simp only [o_pure, o_nil, POp.ev, Opd.ev, gv, setD, List.set, Option.some.injEq, exists_eq_left', binV, ne_eq, not_true_eq_false, if_false, add1 (i := x) (by omega)]
          simp +decide only [p_seq_normal]
          exact Round.mk (j2 - 1) (by omega) ⟨x + 1, _, _, _, _, _, _, _, _, _, _, _, _, _, by omega, hS', rfl⟩
      · have hxl : x = PL.length := by simp at hlt2; omega
        subst hxl
        have hvv := hS.vec
        rw [gA_next] at hvv
        have hltt := hS.lt
        refine s_exit1 ?_
        simp +decide only [p_seq_normal, p_seq_exit, p_block_normal, p_block_exit, reduceIte]
        refine s_reg1 ?_
        simp only [o_pure, o_nil, POp.ev, Opd.ev, gv, setD, List.set, Option.some.injEq, exists_eq_left', binV, ne_eq, not_true_eq_false, if_false, add1 (i := i) (by omega)]
        simp +decide only [p_seq_normal]
        refine Round.mk (j - 1) (by omega) ⟨i + 1, _, _, _, _, _, _, _, _, _, _, _, _, _, _, _, _, _, _, by omega, hvv, hS.ext, by omega, rfl⟩
    · have hip : i = p.length := by simp at hlt; omega
      subst hip
      refine s_exit1 ?_
      simp +decide only [p_seq_normal, p_seq_exit, p_block_exit, reduceIte]
      exact ⟨_, _, _, _, _, _, _, _, _, _, _, _, _, _, _, _, _, _, hv, hx, hbl, rfl⟩
  · rintro e' H4 ⟨y10, y11, y12, y13, y14, y15, y16, y17, y28, y29, y30, y31, y32, y33, y34, y35, y36, y37, hv4, hx4, hbl4, rfl⟩
    have hn4 := hx4.next
    have hmk4 := mkslice_int (H := H4) 8 PL.length PL.length [.int .i64 0] (Nat.le_refl _) (by omega) (by omega)
    rw [zerosL_one] at hmk4
    refine s_reg ?_
    simp only [o_pure, o_eff, o_nil, POp.ev, Opd.ev, EOp.ev, gv, setD, List.set, Option.some.injEq, exists_eq_left', hal, hmk4]
    have ho := VecI.mk' H4 PL.length
    rw [oG_zero n k p L U PL] at ho
    have hx5 := Ext.alloc H4 (List.replicate PL.length (Value.int .i64 0))
    generalize H4.alloc (List.replicate PL.length (Value.int .i64 0)) = H5 at ho hx5 ⊢
    generalize (Value.slice (some ⟨H4.next, 0, some 0⟩) PL.length PL.length) = ov at ho ⊢
    generalize hb2 : H4.next = b2 at ho
    refine s_assoc (s_reg ?_)
    simp only [o_pure, o_nil, POp.ev, Opd.ev, gv, setD, List.set, Option.some.injEq, exists_eq_left', hal]
    refine s_block ?_
    refine s_loop1 (fun j e' H' => ∃ (x : Nat) (y19 y20 y21 y22 y23 y24 y41 y42 y43 y44 y45 : Value), x + j = PL.length ∧ VecI H' b2 ov (oG n k p L U PL x 0) ∧ Ext H4 H' ∧ e' = [s, .int .i64 k, lo, hi, .slice none 0 0, .int .i64 n, dv, .int .i64 (degA (-1) p), all, av, y10, y11, y12, y13, y14, y15, y16, y17, ov, y19, y20, y21, y22, y23, y24, s, .int .i64 p.length, .int .i64 p.length, y28, y29, y30, y31, y32, y33, y34, y35, y36, y37, all, .int .i64 PL.length, .int .i64 x, y41, y42, y43, y44, y45]) PL.length ⟨0, _, _, _, _, _, _, _, _, _, _, _, by omega, ho, hx5, rfl⟩ ?_
    clear ho hx5
    rintro j e' H6 ⟨x, y19, y20, y21, y22, y23, y24, y41, y42, y43, y44, y45, hxj, ho, hx6, rfl⟩
    refine s_test ?_
    simp only [o_pure, o_nil, POp.ev, Opd.ev, gv, setD, Option.some.injEq, exists_eq_left', binV, ne_eq, not_true_eq_false, if_false]
    refine Test.split (fun hlt => ?_) (fun hlt => ?_)
    · have hxl : x < PL.length := by simpa using hlt
      have hjm := List.getElem_mem hxl
      have hgx : PL.getD x [] = PL[x] := by simp [hxl]
      obtain ⟨b3, o3, pi, w2, w3⟩ := hall.atx (i := x) (by rw [List.length_map]; exact hxl)
      simp only [List.getElem_map] at w3
      have hil := hiE _ hjm
      have hib := hbE _ hjm
      refine s_skip1 ?_
      simp +decide only [p_seq_normal]
      refine s_block1 ?_
      refine s_reg ?_
      simp only [o_pure, o_nil, POp.ev, Opd.ev, gv, setD, List.set, Option.some.injEq, exists_eq_left', load1V, w2, (w3 _ (hx4.trans hx6)).1]
      refine s_reg ?_
      simp only [o_pure, o_nil, POp.ev, Opd.ev, gv, setD, List.set, Option.some.injEq, exists_eq_left', hal]
      refine s_block1 ?_
      refine s_loop1 (fun j e' H' => ∃ (y : Nat) (y21 y22 y23 y24 y44 y45 : Value), y + j = PL.length ∧ VecI H' b2 ov (oG n k p L U PL x y) ∧ Ext H4 H' ∧ e' = [s, .int .i64 k, lo, hi, .slice none 0 0, .int .i64 n, dv, .int .i64 (degA (-1) p), all, av, y10, y11, y12, y13, y14, y15, y16, y17, ov, .int .i64 x, pi, y21, y22, y23, y24, s, .int .i64 p.length, .int .i64 p.length, y28, y29, y30, y31, y32, y33, y34, y35, y36, y37, all, .int .i64 PL.length, .int .i64 x, all, .int .i64 PL.length, .int .i64 y, y44, y45]) PL.length ⟨0, _, _, _, _, _, _, by omega, ho, hx6, rfl⟩ ?_
      clear ho hx6
      rintro j2 e' H7 ⟨y, y21, y22, y23, y24, y44, y45, hyj, ho, hx7, rfl⟩
      refine s_test ?_
      simp only [o_pure, o_nil, POp.ev, Opd.ev, gv, setD, Option.some.injEq, exists_eq_left', binV, ne_eq, not_true_eq_false, if_false]
      refine Test.split (fun hlt2 => ?_) (fun hlt2 => ?_)
      · have hyl : y < PL.length := by simpa using hlt2
        have hym := List.getElem_mem hyl
        have hgy : PL.getD y [] = PL[y] := by simp [hyl]
        obtain ⟨b4, o4, pj, v2, v3⟩ := hall.atx (i := y) (by rw [List.length_map]; exact hyl)
        simp only [List.getElem_map] at v3
        have hjl := hiE _ hym
        have hjb := hbE _ hym
        have hav := Vec.ext hv4 hx7
        obtain ⟨a1, a2⟩ := VecI.at hav (i := y) (by rw [gA_length]; exact hyl)
        rw [gA_zero hyl, hgy] at a2
        refine s_skip1 ?_
        simp +decide only [p_seq_normal]
        refine s_block1 ?_
        refine s_reg ?_
        simp only [o_pure, o_nil, POp.ev, Opd.ev, gv, setD, List.set, Option.some.injEq, exists_eq_left', load1V, v2, (v3 _ (hx4.trans hx7)).1]
        refine s_reg ?_
        simp only [o_pure, o_nil, POp.ev, Opd.ev, gv, setD, List.set, Option.some.injEq, exists_eq_left', load1V, a1, a2]
        refine s_assoc (s_reg ?_)
        simp only [o_pure, o_nil, POp.ev, Opd.ev, gv, setD, List.set, Option.some.injEq, exists_eq_left']
        refine s_block ?_
        have ha0 : aF n k p L U p.length PL[y] = wr (aF n k p L U p.length PL[y]) := (wr_wr _).symm
        refine s_loop1 (fun j e' H' => ∃ (u : Nat) (y24 : Value), u + j = n ∧ H' = H7 ∧ e' = [s, .int .i64 k, lo, hi, .slice none 0 0, .int .i64 n, dv, .int .i64 (degA (-1) p), all, av, y10, y11, y12, y13, y14, y15, y16, y17, ov, .int .i64 x, pi, .int .i64 y, pj, .int .i64 (wr (aF n k p L U p.length PL[y] * prodW ((axN p L U n).take u) (PL[x].take u) (PL[y].take u))), y24, s, .int .i64 p.length, .int .i64 p.length, y28, y29, y30, y31, y32, y33, y34, y35, y36, y37, all, .int .i64 PL.length, .int .i64 x, all, .int .i64 PL.length, .int .i64 y, .int .i64 n, .int .i64 u]) n ⟨0, y24, by omega, rfl, by simp only [List.take_zero, prodW, Int.mul_one, ← ha0]; rfl⟩ ?_
        rintro j3 e' H7 ⟨u, y24, huj, rfl, rfl⟩
        refine s_test ?_
        simp only [o_pure, o_nil, POp.ev, Opd.ev, gv, setD, Option.some.injEq, exists_eq_left', binV, ne_eq, not_true_eq_false, if_false]
        refine Test.split (fun hlt3 => ?_) (fun hlt3 => ?_)
        · have hun : u < n := by have := of_decide_eq_true hlt3; omega
          have hax : u < (axN p L U n).length := by rw [axN_length]; exact hun
          have hstep := prodW_take (axN p L U n) PL[x] PL[y] u hax (by rw [axN_length]; exact hil) (by rw [axN_length]; exact hjl)
          rw [axN_get hax] at hstep
          have hdx : (axI p L U u).d = dgI p u := rfl
          rw [hdx] at hstep
          have hx24 := hx4.trans hx7
          obtain ⟨c1, d1, k1, k2⟩ := zl_at (SlI.ext hdv2 hx24) (i := u) (by omega)
          rw [hdg u hun] at k2
          obtain ⟨c2, d2, k3, k4⟩ := zl_at ((w3 _ hx24).2) (i := u) (by omega)
          obtain ⟨c3, d3, k5, k6⟩ := zl_at ((v3 _ hx24).2) (i := u) (by omega)
          have hd4 := hd u
          have hi2 := hib u hun
          have hj2 := hjb u hun
          obtain ⟨q1, q2⟩ := wgtI_code ⟨dgI p u, by omega⟩ ⟨PL[x].getD u 0, by omega⟩ ⟨PL[y].getD u 0, by omega⟩ hi2.1 hj2.1
          simp only [wr] at q1 q2
          have q1' : ¬ ((chs (dgI p u) (PL[y].getD u 0) : Int) = 0) := by omega
          have f1 : IntKind.i64.wrap (wr (aF n k p L U p.length PL[y] * prodW ((axN p L U n).take u) (PL[x].take u) (PL[y].take u)) * wgt (dgI p u) (PL[x].getD u 0) (PL[y].getD u 0)) = wr (aF n k p L U p.length PL[y] * prodW ((axN p L U n).take (u + 1)) (PL[x].take (u + 1)) (PL[y].take (u + 1))) := by
            rw [hstep, ← Int.mul_assoc]
            exact wr_mul_l _ _
          refine s_skip1 ?_
          simp +decide only [p_seq_normal]
          refine s_block1 ?_
          refine s_reg ?_
          simp only [o_pure, o_nil, POp.ev, Opd.ev, gv, setD, List.set, Option.some.injEq, exists_eq_left']
          refine s_reg1 ?_
          simp only [o_pure, o_callN, POp.ev, Opd.ev, gv, setD, List.map, Option.some.injEq, exists_eq_left', load1V, k1, k2, k3, k4, k5, k6]
          refine (multiple_ok _ (dgI p u) H7 hd4).use ?_
          rintro _ HH ⟨rfl, hh⟩ _
          subst HH
          simp only [o_cont, o_callN, Opd.ev, gv, setD, List.map]
          refine (iChoose_ok _ (dgI p u) (PL[y].getD u 0) H7 hd4 (by omega)).use ?_
          rintro _ HH ⟨rfl, hh⟩ _
          subst HH
          simp only [o_cont, o_pure, o_callF, POp.ev, Opd.ev, gv, setD, List.map, Option.some.injEq, exists_eq_left', binV, ne_eq, not_true_eq_false, if_false, q1']
          refine (iChoose_ok _ (PL[x].getD u 0) (PL[y].getD u 0) H7 (by omega) (by omega)).eq ?_
          simp only [o_cont, o_pure, o_nil, POp.ev, Opd.ev, gv, setD, List.set, Option.some.injEq, exists_eq_left', binV, ne_eq, not_true_eq_false, if_false, q2, f1]
          simp +decide only [p_seq_normal, p_block_normal]
          refine s_reg1 ?_
          simp only [o_pure, o_nil, POp.ev, Opd.ev, gv, setD, List.set, Option.some.injEq, exists_eq_left', binV, ne_eq, not_true_eq_false, if_false, add1 (i := u) (by omega)]
          simp +decide only [p_seq_normal]
          exact Round.mk (j3 - 1) (by omega) ⟨u + 1, _, by omega, rfl, rfl⟩
        · have hun : u = n := by have := of_decide_eq_false hlt3; omega
          subst hun
          refine s_exit1 ?_
          simp +decide only [p_seq_normal, p_seq_exit, p_block_normal, p_block_exit, reduceIte]
          have t1 : (axN p L U u).take u = axN p L U u := List.take_of_length_le (by rw [axN_length]; exact Nat.le_refl _)
          have t2 : PL[x].take u = PL[x] := List.take_of_length_le (by rw [hil]; exact Nat.le_refl _)
          have t3 : PL[y].take u = PL[y] := List.take_of_length_le (by rw [hjl]; exact Nat.le_refl _)
          rw [t1, t2, t3]
          obtain ⟨w4, w5⟩ := VecI.at ho (i := x) (by rw [oG_length]; exact hxl)
          rw [oG_at hxl, hgx] at w5
          have f10 := (oF_step (n := u) (k := k) (p := p) (L := L) (U := U) PL[x] PL[y] (PL.take y)).symm
          rw [← List.take_succ_eq_append_getElem hyl] at f10
          obtain ⟨cs, hst, ho'⟩ := VecI.put (lim := lim) ho (by omega) (i := x) (by rw [oG_length]; exact hxl) (oF u k p L U PL[x] (PL.take (y + 1)))
          rw [← hgx, oG_set hxl] at ho'
          simp only [wr] at f10
          refine s_reg1 ?_
          simp only [o_pure, o_eff, o_nil, POp.ev, Opd.ev, EOp.ev, gv, setD, Option.some.injEq, exists_eq_left', binV, load1V, ne_eq, not_true_eq_false, if_false, w4, w5, f10, hst]
          simp +decide only [p_seq_normal, p_block_normal]
          refine s_reg1 ?_
          simp only [o_pure, o_nil, POp.ev, Opd.ev, gv, setD, List.set, Option.some.injEq, exists_eq_left', binV, ne_eq, not_true_eq_false, if_false, add1 (i := y) (by omega)]
          simp +decide only [p_seq_normal]
          exact Round.mk (j2 - 1) (by omega) ⟨y + 1, _, _, _, _, _, _, by omega, ho', Chg.ext hx7 (Chg.put _ _ _) (by omega), rfl⟩
      · have hyl : y = PL.length := by simp at hlt2; omega
        subst hyl
        rw [oG_next] at ho
        refine s_exit1 ?_
        simp +decide only [p_seq_normal, p_seq_exit, p_block_normal, p_block_exit, reduceIte]
        refine s_reg1 ?_
        simp only [o_pure, o_nil, POp.ev, Opd.ev, gv, setD, List.set, Option.some.injEq, exists_eq_left', binV, ne_eq, not_true_eq_false, if_false, add1 (i := x) (by omega)]
        simp +decide only [p_seq_normal]
        exact Round.mk (j - 1) (by omega) ⟨x + 1, _, _, _, _, _, _, _, _, _, _, _, by omega, ho, hx7, rfl⟩
    · have hxl : x = PL.length := by simp at hlt; omega
      subst hxl
      rw [oG_all _ hFin] at ho
      refine s_exit1 ?_
      simp +decide only [p_seq_normal, p_seq_exit, p_block_exit, reduceIte]
      refine s_reg ?_
      simp only [o_pure, o_nil, POp.ev, Opd.ev, gv, setD, List.set, Option.some.injEq, exists_eq_left']
      refine s_ret1 ?_
      simp +decide only [p_fin_ret, resV, resOne, gv, Option.some.injEq, exists_eq_left']
      exact ⟨b2, ho, hx12.trans (hx4.trans hx6)⟩
end Go.Proofs.Ytaimceodhhgnnaa

/- Faces of a coarse box, the program: the sign on a face; no condition beyond stated ranges. -/
namespace Go.Proofs.Ytaimceodhhgnnaa
open Go.Ab Ints
set_option linter.unusedSimpArgs false
set_option linter.unusedVariables false

/-- the program's list has the sign told of three axes -/
theorem bernList_sign {k n : Nat} {p : List Tm} {L U : List Int} (hc : Crs k n L U) (hg : goodP p = true) (hf : fromB n p = true) :
    sg ((placesL ((axN p L U n).map (·.d))).map fun is => wr (coef (termsN n k p) (axN p L U n) is)) = sgn3A k p L U := by
  obtain ⟨g1, g2, g3⟩ := goodP_ok hg
  have hb : ∀ t ∈ p, 0 ≤ t.x ∧ t.x ≤ 4 ∧ 0 ≤ t.y ∧ t.y ≤ 4 ∧ 0 ≤ t.z ∧ t.z ≤ 4 := fun t ht => (g1 t ht).2
  have hd := dgI_le hb
  have hPN := places_N (k := k) hc.n1 hc.n3 hc.hL hc.hU hf hb
  unfold sgn3A
  rw [hPN]
  congr 1
  refine List.map_congr_left fun is his => ?_
  have hm : coef (termsN n k p) (axN p L U n) is ∈ (placesL ([axI p L U 0, axI p L U 1, axI p L U 2].map (·.d))).map (coef (terms3 k p) [axI p L U 0, axI p L U 1, axI p L U 2]) := by
    rw [hPN]
    exact List.mem_map.2 ⟨is, his, rfl⟩
  obtain ⟨js, hjs, he⟩ := List.mem_map.1 hm
  obtain ⟨j1, j2⟩ := mem_placesL.1 hjs
  match js, j1 with
  | [x, y, z], _ =>
    have a1 := j2 0 x (axI p L U 0).d rfl rfl
    have a2 := j2 1 y (axI p L U 1).d rfl rfl
    have a3 := j2 2 z (axI p L U 2).d rfl rfl
    rw [← he]
    exact coef_wr hc.hk g2 (fun t ht => (g1 t ht).1) g3 (hc.ax 0 _ (hd 0)) (hc.ax 1 _ (hd 1)) (hc.ax 2 _ (hd 2)) a1 a2 a3
theorem placesL_ne (ms : List Nat) : placesL ms ≠ [] := by
  induction ms with
  | nil => simp [placesL]
  | cons m ms ih =>
    intro h
    obtain ⟨l, hl⟩ := List.exists_mem_of_ne_nil _ ih
    have : (0 :: l) ∈ placesL (m :: ms) := by
      simp only [placesL, List.mem_flatMap, List.mem_map, List.mem_range]
      exact ⟨0, by omega, l, hl, rfl⟩
    rw [h] at this
    simp at this

theorem min_ok (lim : Nat) (s : Value) (A : List Int) (H : AHeap) (hs : SlI H s A) (hne : A ≠ []) (hn : A.length ≤ 1000000) :
    ACalls Try.prog lim n_slices_Min_S_int_int [s] H fun v H' => (∃ m, v = .int .i64 m ∧ m ∈ A ∧ ∀ x ∈ A, m ≤ x) ∧ H' = H := by
  refine is_slices_Min_S_int_int.go rfl ?_
  unfold c_slices_Min_S_int_int
  have hpos : 0 < A.length := List.length_pos_iff.2 hne
  obtain ⟨b0, o0, u0, _, u0c⟩ := hs.get hpos
  have u0' : iadV 1 s (.int .i64 0) = some (.pointer (some ⟨b0, o0, none⟩)) := u0
  have d1 : decide ((A.length : Int) < 1) = false := by simp; omega
  refine s_reg ?_
  simp only [o_pure, o_nil, POp.ev, Opd.ev, env0, gu, setD, List.set, Option.some.injEq, exists_eq_left']
  refine s_test ?_
  simp only [o_pure, o_nil, POp.ev, Opd.ev, gv, setD, Option.some.injEq, exists_eq_left', binV, ne_eq, not_true_eq_false, if_false, hs.lenV, d1]
  refine Test.false_ (s_skip1 ?_)
  simp +decide only [p_seq_normal]
  refine s_reg ?_
  simp only [o_pure, o_nil, POp.ev, Opd.ev, gv, setD, List.set, Option.some.injEq, exists_eq_left', load1V, u0', u0c]
  refine s_assoc (s_reg ?_)
  simp only [o_pure, o_nil, POp.ev, Opd.ev, setD, List.set, Option.some.injEq, exists_eq_left']
  refine s_block ?_
  refine s_loop1 (fun j e' H' => ∃ (i : Nat) (m : Int), i + j = A.length ∧ m ∈ A ∧ (∀ x ∈ A.take i, m ≤ x) ∧ H' = H ∧ e' = [s, .int .i64 0, .int .i64 m, .int .i64 i]) (A.length - 1) ⟨1, A[0], by omega, List.getElem_mem hpos, ?_, rfl, rfl⟩ ?_
  · intro x hx
    rw [show (1 : Nat) = 0 + 1 from rfl, List.take_succ_eq_append_getElem hpos] at hx
    simp at hx
    omega
  rintro j e' H ⟨i, m, hij, hm, hall, rfl, rfl⟩
  refine s_test ?_
  simp only [o_pure, o_nil, POp.ev, Opd.ev, gv, setD, Option.some.injEq, exists_eq_left', binV, ne_eq, not_true_eq_false, if_false, hs.lenV]
  refine Test.split (fun hlt => ?_) (fun hlt => ?_)
  · have hlt' : i < A.length := by simpa using hlt
    obtain ⟨b1, o1, w, _, wc⟩ := hs.get hlt'
    refine s_skip1 ?_
    simp +decide only [p_seq_normal]
    refine s_block1 ?_
    refine s_reg1 ?_
    simp only [o_pure, o_nil, POp.ev, Opd.ev, gv, setD, List.set, Option.some.injEq, exists_eq_left', load1V, min2V, w, wc]
    simp +decide only [p_seq_normal, p_block_normal]
    refine s_reg1 ?_
    simp only [o_pure, o_nil, POp.ev, Opd.ev, gv, setD, List.set, Option.some.injEq, exists_eq_left', binV, ne_eq, not_true_eq_false, if_false, add1 (i := i) (by omega)]
    simp +decide only [p_seq_normal]
    refine Round.mk (j - 1) (by omega) ⟨i + 1, _, by omega, ?_, ?_, rfl, rfl⟩
    · split
      · exact List.getElem_mem hlt'
      · exact hm
    · intro x hx
      rw [List.take_succ_eq_append_getElem hlt'] at hx
      rcases List.mem_append.1 hx with h | h
      · have := hall x h
        split <;> omega
      · rw [List.mem_singleton.1 h]
        split <;> omega
  · have hge : A.length ≤ i := by simp at hlt; omega
    rw [List.take_of_length_le hge] at hall
    refine s_exit1 ?_
    simp +decide only [p_seq_normal, p_seq_exit, p_block_exit, reduceIte]
    refine s_reg ?_
    simp only [o_pure, o_nil, POp.ev, Opd.ev, gv, setD, List.set, Option.some.injEq, exists_eq_left']
    refine s_ret1 ?_
    simp +decide only [p_fin_ret, resV, resOne, gv, Option.some.injEq, exists_eq_left']
    exact ⟨⟨m, rfl, hm, hall⟩, trivial⟩
theorem max_ok (lim : Nat) (s : Value) (A : List Int) (H : AHeap) (hs : SlI H s A) (hne : A ≠ []) (hn : A.length ≤ 1000000) :
    ACalls Try.prog lim n_slices_Max_S_int_int [s] H fun v H' => (∃ m, v = .int .i64 m ∧ m ∈ A ∧ ∀ x ∈ A, x ≤ m) ∧ H' = H := by
  refine is_slices_Max_S_int_int.go rfl ?_
  unfold c_slices_Max_S_int_int
  have hpos : 0 < A.length := List.length_pos_iff.2 hne
  obtain ⟨b0, o0, u0, _, u0c⟩ := hs.get hpos
  have u0' : iadV 1 s (.int .i64 0) = some (.pointer (some ⟨b0, o0, none⟩)) := u0
  have d1 : decide ((A.length : Int) < 1) = false := by simp; omega
  refine s_reg ?_
  simp only [o_pure, o_nil, POp.ev, Opd.ev, env0, gu, setD, List.set, Option.some.injEq, exists_eq_left']
  refine s_test ?_
  simp only [o_pure, o_nil, POp.ev, Opd.ev, gv, setD, Option.some.injEq, exists_eq_left', binV, ne_eq, not_true_eq_false, if_false, hs.lenV, d1]
  refine Test.false_ (s_skip1 ?_)
  simp +decide only [p_seq_normal]
  refine s_reg ?_
  simp only [o_pure, o_nil, POp.ev, Opd.ev, gv, setD, List.set, Option.some.injEq, exists_eq_left', load1V, u0', u0c]
  refine s_assoc (s_reg ?_)
  simp only [o_pure, o_nil, POp.ev, Opd.ev, setD, List.set, Option.some.injEq, exists_eq_left']
  refine s_block ?_
  refine s_loop1 (fun j e' H' => ∃ (i : Nat) (m : Int), i + j = A.length ∧ m ∈ A ∧ (∀ x ∈ A.take i, x ≤ m) ∧ H' = H ∧ e' = [s, .int .i64 0, .int .i64 m, .int .i64 i]) (A.length - 1) ⟨1, A[0], by omega, List.getElem_mem hpos, ?_, rfl, rfl⟩ ?_
  · intro x hx
    rw [show (1 : Nat) = 0 + 1 from rfl, List.take_succ_eq_append_getElem hpos] at hx
    simp at hx
    omega
  rintro j e' H ⟨i, m, hij, hm, hall, rfl, rfl⟩
  refine s_test ?_
  simp only [o_pure, o_nil, POp.ev, Opd.ev, gv, setD, Option.some.injEq, exists_eq_left', binV, ne_eq, not_true_eq_false, if_false, hs.lenV]
  refine Test.split (fun hlt => ?_) (fun hlt => ?_)
  · have hlt' : i < A.length := by simpa using hlt
    obtain ⟨b1, o1, w, _, wc⟩ := hs.get hlt'
    refine s_skip1 ?_
    simp +decide only [p_seq_normal]
    refine s_block1 ?_
    refine s_reg1 ?_
    simp only [o_pure, o_nil, POp.ev, Opd.ev, gv, setD, List.set, Option.some.injEq, exists_eq_left', load1V, max2V, w, wc]
    simp +decide only [p_seq_normal, p_block_normal]
    refine s_reg1 ?_
    simp only [o_pure, o_nil, POp.ev, Opd.ev, gv, setD, List.set, Option.some.injEq, exists_eq_left', binV, ne_eq, not_true_eq_false, if_false, add1 (i := i) (by omega)]
    simp +decide only [p_seq_normal]
    refine Round.mk (j - 1) (by omega) ⟨i + 1, _, by omega, ?_, ?_, rfl, rfl⟩
    · split
      · exact List.getElem_mem hlt'
      · exact hm
    · intro x hx
      rw [List.take_succ_eq_append_getElem hlt'] at hx
      rcases List.mem_append.1 hx with h | h
      · have := hall x h
        split <;> omega
      · rw [List.mem_singleton.1 h]
        split <;> omega
  · have hge : A.length ≤ i := by simp at hlt; omega
    rw [List.take_of_length_le hge] at hall
    refine s_exit1 ?_
    simp +decide only [p_seq_normal, p_seq_exit, p_block_exit, reduceIte]
    refine s_reg ?_
    simp only [o_pure, o_nil, POp.ev, Opd.ev, gv, setD, List.set, Option.some.injEq, exists_eq_left']
    refine s_ret1 ?_
    simp +decide only [p_fin_ret, resV, resOne, gv, Option.some.injEq, exists_eq_left']
    exact ⟨⟨m, rfl, hm, hall⟩, trivial⟩
theorem commonSign_ok (lim : Nat) (s : Value) (A : List Int) (H : AHeap) (hs : SlI H s A) (hne : A ≠ []) (hn : A.length ≤ 1000000) :
    ACalls Try.prog lim n_impl_commonSign [s] H fun v H' => v = .int .i64 (sg A) ∧ H' = H := by
  refine is_impl_commonSign.go rfl ?_
  unfold c_impl_commonSign
  refine s_reg ?_
  simp only [o_pure, o_nil, POp.ev, Opd.ev, env0, gu, setD, List.set, Option.some.injEq, exists_eq_left']
  refine s_block ?_
  refine s_test1 ?_
  simp only [o_pure, o_callF, POp.ev, Opd.ev, gv, setD, List.map, Option.some.injEq, exists_eq_left']
  refine (min_ok _ s A H hs hne hn).mono ?_
  rintro _ H' ⟨⟨m, rfl, hm, hmn⟩, rfl⟩
  simp only [o_cont, o_pure, o_nil, POp.ev, Opd.ev, gv, setD, Option.some.injEq, exists_eq_left', binV, ne_eq, not_true_eq_false, if_false]
  refine Test.split (fun h => ?_) (fun h => ?_)
  · have h' : 0 < m := by simpa using h
    refine s_reg ?_
    simp only [o_pure, o_nil, POp.ev, Opd.ev, setD, List.set, Option.some.injEq, exists_eq_left']
    refine s_ret1 ?_
    simp +decide only [p_seq_ret, p_block_ret, p_fin_ret, resV, resOne, gv, Option.some.injEq, exists_eq_left']
    unfold sg
    rw [if_pos (fun v hv => by have := hmn v hv; omega)]
    exact ⟨rfl, trivial⟩
  · have h' : ¬ 0 < m := by simpa using h
    have c1 : ¬ ∀ v ∈ A, 0 < v := fun hh => h' (hh m hm)
    refine s_test1 ?_
    simp only [o_pure, o_callF, POp.ev, Opd.ev, gv, setD, List.map, Option.some.injEq, exists_eq_left']
    refine (max_ok _ s A H' hs hne hn).mono ?_
    rintro _ H2 ⟨⟨M, rfl, hM, hmx⟩, rfl⟩
    simp only [o_cont, o_pure, o_nil, POp.ev, Opd.ev, gv, setD, Option.some.injEq, exists_eq_left', binV, ne_eq, not_true_eq_false, if_false]
    refine Test.split (fun h2 => ?_) (fun h2 => ?_)
    · have h2' : M < 0 := by simpa using h2
      refine s_reg ?_
      simp only [o_pure, o_nil, POp.ev, Opd.ev, setD, List.set, Option.some.injEq, exists_eq_left']
      refine s_ret1 ?_
      simp +decide only [p_seq_ret, p_block_ret, p_fin_ret, resV, resOne, gv, Option.some.injEq, exists_eq_left']
      unfold sg
      rw [if_neg c1, if_pos (fun v hv => by have := hmx v hv; omega)]
      exact ⟨rfl, trivial⟩
    · have h2' : ¬ M < 0 := by simpa using h2
      refine s_skip1 ?_
      simp +decide only [p_seq_normal, p_block_normal]
      refine s_reg ?_
      simp only [o_pure, o_nil, POp.ev, Opd.ev, setD, List.set, Option.some.injEq, exists_eq_left']
      refine s_ret1 ?_
      simp +decide only [p_fin_ret, resV, resOne, gv, Option.some.injEq, exists_eq_left']
      unfold sg
      rw [if_neg c1, if_neg (fun hh => h2' (hh M hM))]
      exact ⟨rfl, trivial⟩
theorem Ints.BoxP.ext {H H' : AHeap} {q : Nat} {k : Int} {s t : Value} {low high : List Int} (h : BoxP H q k s t low high) (hq : q < H.next) (hx : Ext H H') : BoxP H' q k s t low high :=
  ⟨by rw [hx.blk _ hq]; exact h.blk, SlI.ext h.low hx, SlI.ext h.high hx⟩
theorem faceSign_ok (lim : Nat) (s bl bu : Value) (p : List Tm) (L U : List Int) (k n side q : Nat) (up : Bool) (H : AHeap) (hl : lim ≤ H.next) (hs : SlT H s p) (hv : BoxP H q k bl bu L U) (hq : q < H.next) (hc : Crs k n L U) (hp : goodP p = true) (hf : fromB n p = true) (hside : side < n) :
    ACalls Try.prog lim n_impl_faceSign [s, .pointer (some ⟨q, 0, none⟩), .int .i64 side, .bool up] H fun v H' => v = .int .i64 (fcS k p L U side up) ∧ Ext H H' := by
  have hLn := hc.hL
  have hUn := hc.hU
  have hn3 := hc.n3
  have hn1 := hc.n1
  refine is_impl_faceSign.go rfl ?_
  unfold c_impl_faceSign
  refine s_reg ?_
  simp only [o_pure, o_nil, POp.ev, Opd.ev, env0, gu, setD, List.set, Option.some.injEq, exists_eq_left']
  refine s_reg ?_
  simp only [o_pure, o_callN, POp.ev, Opd.ev, gv, setD, List.map, Option.some.injEq, exists_eq_left', load1V, nilchkV, fadV, List.getElem?_cons_zero, List.getElem?_cons_succ, Nat.zero_add, cell_blk hv.blk]
  refine (Ints.clone_ok _ bl L H (Nat.le_refl _) hv.low (by omega)).use ?_
  rintro lo H2 ⟨b, hb1, hb2, hlo, hx2⟩ _
  simp only [o_cont, o_callF, Opd.ev, gv, setD, List.map]
  refine (Ints.clone_ok lim bu U H2 (by have := hx2.next; omega) (SlI.ext hv.high hx2) (by omega)).mono ?_
  rintro hi H3 ⟨c, hc1, hc2, hhi, hx3⟩
  have hnx2 := hx2.next
  have hnx3 := hx3.next
  have hbl : b < H2.next := (Vec.blk hlo (by omega)).elim fun _ h => h.2
  have hcl : c < H3.next := (Vec.blk hhi (by omega)).elim fun _ h => h.2
  have hlo3 := Vec.ext hlo hx3
  have hx03 := hx2.trans hx3
  have hq3 := hv.ext hq hx03
  simp only [o_cont, o_pure, o_nil, POp.ev, Opd.ev, gv, setD, List.set, Option.some.injEq, exists_eq_left']
  refine s_cut (fun e' H' => VecI H' b lo (faceL L U side up) ∧ VecI H' c hi (faceU L U side up) ∧ Ext H H' ∧ e' = [s, .pointer (some ⟨q, 0, none⟩), .int .i64 side, .bool up, .int .i64 0, lo, hi]) ?_ ?_
  · refine s_test1 ?_
    simp only [o_pure, o_nil, POp.ev, Opd.ev, gv, setD, Option.some.injEq, exists_eq_left']
    cases up
    · refine Test.false_ ?_
      obtain ⟨q1, q2⟩ := VecI.at hlo3 (i := side) (by omega)
      obtain ⟨w1, _⟩ := VecI.at hhi (i := side) (by omega)
      obtain ⟨cs, hst, hhi4⟩ := VecI.put (lim := lim) hhi (by omega) (i := side) (by omega) (L.getD side 0)
      have hch : Chg c H3 (H3.put c cs) := Chg.put _ _ _
      refine s_reg1 ?_
      simp only [o_pure, o_eff, o_nil, POp.ev, Opd.ev, EOp.ev, gv, setD, Option.some.injEq, exists_eq_left', load1V, q1, q2, w1, hst]
      simp +decide only [p_seq_normal]
      exact ⟨Vec.chg hlo3 hch (by omega), hhi4, Chg.ext hx03 hch (by omega), trivial⟩
    · refine Test.true_ ?_
      obtain ⟨q1, q2⟩ := VecI.at hhi (i := side) (by omega)
      obtain ⟨w1, _⟩ := VecI.at hlo3 (i := side) (by omega)
      obtain ⟨cs, hst, hlo4⟩ := VecI.put (lim := lim) hlo3 (by omega) (i := side) (by omega) (U.getD side 0)
      have hch : Chg b H3 (H3.put b cs) := Chg.put _ _ _
      refine s_reg1 ?_
      simp only [o_pure, o_eff, o_nil, POp.ev, Opd.ev, EOp.ev, gv, setD, Option.some.injEq, exists_eq_left', load1V, q1, q2, w1, hst]
      simp +decide only [p_seq_normal]
      exact ⟨hlo4, Vec.chg hhi hch (by omega), Chg.ext hx03 hch (by omega), trivial⟩
  · rintro e' H4 ⟨g1, g2, g3, rfl⟩
    have hfc := hc.face hside up
    have hn4 := g3.next
    refine s_reg ?_
    simp only [o_pure, o_callF, POp.ev, Opd.ev, gv, setD, List.map, Option.some.injEq, exists_eq_left', load1V, nilchkV, fadV, List.getElem?_cons_zero, Nat.zero_add, cell_blk (hv.ext hq g3).blk]
    refine (bernstein_ok lim s lo hi p _ _ k n H4 (by omega) (hs.ext g3) (Vec.sl g1) (Vec.sl g2) hp hc.hk hn3 hfc.hL hfc.hU).mono ?_
    rintro a H5 ⟨b5, ha, hx5⟩
    have hne : ((placesL ((axN p (faceL L U side up) (faceU L U side up) n).map (·.d))).map fun is => wr (coef (termsN n k p) (axN p (faceL L U side up) (faceU L U side up) n) is)) ≠ [] := by
      intro h
      exact placesL_ne _ (List.map_eq_nil_iff.1 h)
    have hlen : ((placesL ((axN p (faceL L U side up) (faceU L U side up) n).map (·.d))).map fun is => wr (coef (termsN n k p) (axN p (faceL L U side up) (faceU L U side up) n) is)).length ≤ 1000000 := by
      obtain ⟨gg1, _, _⟩ := goodP_ok hp
      have hd := dgI_le (p := p) fun t ht => (gg1 t ht).2
      rw [List.length_map, axN_d]
      have h1 := placesL_length (ms := (List.range n).map (dgI p)) fun m hm => by
        obtain ⟨j, _, rfl⟩ := List.mem_map.1 hm
        exact hd j
      have h2 : (5 : Nat) ^ ((List.range n).map (dgI p)).length ≤ 5 ^ 3 := Nat.pow_le_pow_right (by decide) (by simp; omega)
      omega
    simp only [o_cont, o_callF, Opd.ev, gv, setD, List.map]
    refine (commonSign_ok lim a _ H5 (Vec.sl ha) hne hlen).eq ?_
    rw [bernList_sign hfc hp hf]
    simp only [o_cont, o_pure, o_nil, POp.ev, Opd.ev, gv, setD, List.set, Option.some.injEq, exists_eq_left']
    refine s_ret1 ?_
    simp +decide only [p_fin_ret, resV, resOne, gv, Option.some.injEq, exists_eq_left']
    exact ⟨rfl, g3.trans hx5⟩
theorem isOpposite_ok (lim : Nat) (s bl bu : Value) (p : List Tm) (L U : List Int) (k n side q : Nat) (H : AHeap) (hl : lim ≤ H.next) (hs : SlT H s p) (hv : BoxP H q k bl bu L U) (hq : q < H.next) (hc : Crs k n L U) (hp : goodP p = true) (hf : fromB n p = true) (hside : side < n) :
    ACalls Try.prog lim n_impl_isOpposite [s, .pointer (some ⟨q, 0, none⟩), .int .i64 side] H fun v H' => v = .bool (oppB k p L U side) ∧ Ext H H' := by
  refine is_impl_isOpposite.go rfl ?_
  unfold c_impl_isOpposite
  refine s_reg ?_
  simp only [o_pure, o_nil, POp.ev, Opd.ev, env0, gu, setD, List.set, Option.some.injEq, exists_eq_left']
  refine s_reg ?_
  simp only [o_pure, o_callF, POp.ev, Opd.ev, gv, setD, List.map, Option.some.injEq, exists_eq_left']
  refine (faceSign_ok lim s bl bu p L U k n side q false H hl hs hv hq hc hp hf hside).mono ?_
  rintro _ H2 ⟨rfl, hx2⟩
  have hn2 := hx2.next
  simp only [o_cont, o_pure, o_callF, POp.ev, Opd.ev, gv, setD, List.map, Option.some.injEq, exists_eq_left']
  refine (faceSign_ok lim s bl bu p L U k n side q true H2 (by omega) (hs.ext hx2) (hv.ext hq hx2) (by omega) hc hp hf hside).mono ?_
  rintro _ H3 ⟨rfl, hx3⟩
  simp only [o_cont, o_pure, o_nil, POp.ev, Opd.ev, gv, setD, List.set, Option.some.injEq, exists_eq_left', binV, ne_eq, not_true_eq_false, if_false, fcS_wrap]
  refine s_ret1 ?_
  simp +decide only [p_fin_ret, resV, resOne, gv, Option.some.injEq, exists_eq_left']
  exact ⟨rfl, hx2.trans hx3⟩
end Go.Proofs.Ytaimceodhhgnnaa

/- Miranda's test, the program: orders that pass, what is asked; no condition beyond stated lengths. -/
namespace Go.Proofs.Ytaimceodhhgnnaa
open Go.Ab Ints
set_option linter.unusedSimpArgs false
set_option linter.unusedVariables false

theorem passesMiranda_ok (lim : Nat) (s bl bu o : Value) (ss : List (List Tm)) (L U order : List Int) (k n q : Nat) (H : AHeap) (hl : lim ≤ H.next) (hs : SlSS H s ss) (hv : BoxP H q k bl bu L U) (hq : q < H.next) (ho : SlI H o order) (hc : Crs k n L U) (hp : ∀ p ∈ ss, goodP p = true ∧ fromB n p = true) (hn : ss.length = n) (hon : order.length = n) (hin : ∀ x ∈ order, 0 ≤ x ∧ x ≤ (n : Int) - 1) :
    ACalls Try.prog lim n_impl_passesMiranda [s, .pointer (some ⟨q, 0, none⟩), o] H fun v H' => v = .bool (passB k ss L U order) ∧ Ext H H' := by
  have hn3 := hc.n3
  refine is_impl_passesMiranda.go rfl ?_
  unfold c_impl_passesMiranda
  refine s_reg ?_
  simp only [o_pure, o_nil, POp.ev, Opd.ev, env0, gu, setD, List.set, Option.some.injEq, exists_eq_left']
  refine s_assoc (s_reg ?_)
  simp only [o_pure, o_nil, POp.ev, Opd.ev, gv, setD, List.set, Option.some.injEq, exists_eq_left', ho.lenV]
  refine s_block ?_
  refine s_loop1 (fun j e' H' => ∃ (i : Nat) (x5 x6 : Value), i + j = order.length ∧ passB k ss L U order = ((List.range order.length).drop i).all (fun side => oppB k (ss.getD (order.getD side 0).toNat []) L U side) ∧ Ext H H' ∧ e' = [s, .pointer (some ⟨q, 0, none⟩), o, .bool false, x5, x6, o, .int .i64 order.length, .int .i64 i]) order.length ⟨0, _, _, by omega, rfl, Ext.refl _, rfl⟩ ?_
  rintro j e' H2 ⟨i, x5, x6, hij, hall, hx2, rfl⟩
  have hn2 := hx2.next
  refine s_test ?_
  simp only [o_pure, o_nil, POp.ev, Opd.ev, gv, setD, Option.some.injEq, exists_eq_left', binV, ne_eq, not_true_eq_false, if_false]
  refine Test.split (fun hlt => ?_) (fun hlt => ?_)
  · have hlt' : i < order.length := by simpa using hlt
    obtain ⟨b1, o1, u1, _, u2⟩ := SlI.get (SlI.ext ho hx2) hlt'
    have hg : order.getD i 0 = order[i] := by simp [hlt']
    obtain ⟨r1, r2⟩ := hin _ (List.getElem_mem hlt')
    obtain ⟨m, hm⟩ : ∃ m : Nat, order[i] = m := ⟨order[i].toNat, by omega⟩
    have hml : m < ss.length := by omega
    obtain ⟨b2, o2, s1, w1, w2, w3⟩ := (hs.ext hx2).at hml
    rw [List.drop_eq_getElem_cons (by simpa using hlt'), List.all_cons, List.getElem_range, hg, hm, Int.toNat_natCast, show ss.getD m [] = ss[m] from by simp [hml]] at hall
    rw [hm] at u2
    obtain ⟨pp1, pp2⟩ := hp _ (List.getElem_mem hml)
    refine s_skip1 ?_
    simp +decide only [p_seq_normal]
    refine s_block1 ?_
    refine s_reg ?_
    simp only [o_pure, o_nil, POp.ev, Opd.ev, gv, setD, List.set, Option.some.injEq, exists_eq_left', load1V, u1, u2]
    refine s_test1 ?_
    simp only [o_pure, o_callF, POp.ev, Opd.ev, gv, setD, List.map, Option.some.injEq, exists_eq_left', load1V, w1, w2]
    refine (isOpposite_ok lim s1 bl bu ss[m] L U k n i q H2 (by omega) w3 (hv.ext hq hx2) (by omega) hc pp1 pp2 (by omega)).mono ?_
    rintro _ H3 ⟨rfl, hx3⟩
    simp only [o_cont, o_pure, o_nil, POp.ev, Opd.ev, gv, setD, Option.some.injEq, exists_eq_left', unV]
    refine Test.split (fun hb => ?_) (fun hb => ?_)
    · refine s_reg ?_
      simp only [o_pure, o_nil, POp.ev, Opd.ev, setD, List.set, Option.some.injEq, exists_eq_left']
      refine s_ret1 ?_
      simp +decide only [p_seq_ret, p_block_ret, p_fin_ret, resV, resOne, gv, Option.some.injEq, exists_eq_left']
      simp only [Bool.not_eq_true'] at hb
      rw [hb, Bool.false_and] at hall
      rw [hall]
      exact ⟨rfl, hx2.trans hx3⟩
    · refine s_skip1 ?_
      simp +decide only [p_seq_normal, p_block_normal]
      refine s_reg1 ?_
      simp only [o_pure, o_nil, POp.ev, Opd.ev, gv, setD, List.set, Option.some.injEq, exists_eq_left', binV, ne_eq, not_true_eq_false, if_false, add1 (i := i) (by omega)]
      simp +decide only [p_seq_normal]
      simp only [Bool.not_eq_false'] at hb
      rw [hb, Bool.true_and] at hall
      exact Round.mk (j - 1) (by omega) ⟨i + 1, _, _, by omega, hall, hx2.trans hx3, rfl⟩
  · have hge : i = order.length := by simp at hlt; omega
    subst hge
    refine s_exit1 ?_
    simp +decide only [p_seq_normal, p_seq_exit, p_block_exit, reduceIte]
    refine s_reg ?_
    simp only [o_pure, o_nil, POp.ev, Opd.ev, setD, List.set, Option.some.injEq, exists_eq_left']
    refine s_ret1 ?_
    simp +decide only [p_fin_ret, resV, resOne, gv, Option.some.injEq, exists_eq_left']
    rw [List.drop_of_length_le (by simp)] at hall
    rw [hall]
    exact ⟨rfl, hx2⟩

def overB (ss : List (List Tm)) (k : Int) (L U : List Int) : Bool := goodSS ss && goodB k L U && ((ss.length : Int) == (L.length : Int))
theorem systemOver_ok (lim : Nat) (s bl bu : Value) (ss : List (List Tm)) (k : Int) (L U : List Int) (q : Nat) (H : AHeap) (hl : lim ≤ H.next) (hs : SlSS H s ss) (hv : BoxP H q k bl bu L U) (hq : q < H.next) (hn : ss.length ≤ 1000000) (hn2 : ∀ p ∈ ss, p.length ≤ 1000000) (hL : L.length ≤ 1000000) (hU : U.length ≤ 1000000) :
    ACalls Try.prog lim n_impl_systemOver [s, .pointer (some ⟨q, 0, none⟩)] H fun v H' => v = .bool (overB ss k L U) ∧ Ext H H' := by
  refine is_impl_systemOver.go rfl ?_
  unfold c_impl_systemOver
  refine s_reg ?_
  simp only [o_pure, o_nil, POp.ev, Opd.ev, env0, gu, setD, List.set, Option.some.injEq, exists_eq_left']
  refine s_reg ?_
  simp only [o_pure, o_callF, POp.ev, Opd.ev, gv, setD, List.map, Option.some.injEq, exists_eq_left']
  refine (isSystem_ok lim s ss H (by omega) hs hn hn2).mono ?_
  rintro _ H2 ⟨rfl, hx2⟩
  have hn2' := hx2.next
  unfold overB
  cases h1 : goodSS ss
  · simp only [o_cont, o_pure, o_guard, gk_ft, o_nil, POp.ev, Opd.ev, gv, setD, List.set, Option.some.injEq, exists_eq_left', pickV]
    refine s_ret1 ?_
    simp +decide only [p_fin_ret, resV, resOne, gv, Option.some.injEq, exists_eq_left']
    exact ⟨by simp, hx2⟩
  simp only [o_cont, o_pure, o_callF, o_guard, gk_tt, POp.ev, Opd.ev, gv, setD, List.map, Option.some.injEq, exists_eq_left']
  have hv2 := hv.ext hq hx2
  refine (isBox_ok lim hv2 (by omega) (by omega)).eq ?_
  cases h2 : goodB k L U
  · simp only [o_cont, o_pure, o_guard, gk_ft, o_nil, POp.ev, Opd.ev, gv, setD, List.set, Option.some.injEq, exists_eq_left', pickV]
    refine s_ret1 ?_
    simp +decide only [p_fin_ret, resV, resOne, gv, Option.some.injEq, exists_eq_left']
    exact ⟨by simp, hx2⟩
  simp only [o_cont, o_pure, o_guard, gk_tt, o_nil, POp.ev, Opd.ev, gv, setD, List.set, Option.some.injEq, exists_eq_left', pickV, binV, load1V, nilchkV, fadV, ne_eq, not_true_eq_false, if_false, List.getElem?_cons_zero, List.getElem?_cons_succ, Nat.zero_add, cell_blk hv2.blk, hs.lenV, hv.low.lenV]
  refine s_ret1 ?_
  simp +decide only [p_fin_ret, resV, resOne, gv, Option.some.injEq, exists_eq_left']
  exact ⟨by simp, hx2⟩
theorem ask_over (ss : List (List Tm)) (k : Int) (L U : List Int) : askB ss k L U = (overB ss k L U && decide (k ≤ 4)) := by
  unfold askB overB
  cases goodSS ss <;> cases goodB k L U <;> cases decide (k ≤ 4) <;> simp
theorem iPasses_ok (lim : Nat) (s v o : Value) (ss : List (List Tm)) (k : Int) (L U order : List Int) (H : AHeap) (hl : lim ≤ H.next) (hs : SlSS H s ss) (hv : BoxV H v k L U) (ho : SlI H o order) (hn : ss.length ≤ 1000000) (hn2 : ∀ p ∈ ss, p.length ≤ 1000000) (hL : L.length ≤ 1000000) (hU : U.length ≤ 1000000) (hno : order.length ≤ 1000000) :
    ACalls Try.prog lim n_impl_PassesMiranda [s, v, o] H fun v H' => v = .tuple #[.bool (pmR ss k L U order).1, .bool (pmR ss k L U order).2] ∧ Ext H H' := by
  obtain ⟨ls, us, rfl, hls, hus⟩ := hv
  refine is_impl_PassesMiranda.go rfl ?_
  unfold c_impl_PassesMiranda
  refine s_reg ?_
  simp only [o_pure, o_eff, o_nil, POp.ev, Opd.ev, EOp.ev, env0, gu, gv, setD, List.set, Option.map_some, Option.some.injEq, exists_eq_left', boxH, cellsV]
  have hx : Ext H (H.alloc [.int .i64 k, ls, us]) := Ext.alloc _ _
  have hbp : BoxP (H.alloc [.int .i64 k, ls, us]) H.next k ls us L U := ⟨alloc_new _ _, SlI.ext hls hx, SlI.ext hus hx⟩
  have ho1 := SlI.ext ho hx
  have hbl : H.next < (H.alloc [.int .i64 k, ls, us]).next := Nat.lt_succ_self _
  generalize H.alloc [.int .i64 k, ls, us] = H1 at hx ho1 hbp hbl ⊢
  have hn1 := hx.next
  refine s_test_I (!(askB ss k L U && ordN order ss.length)) (Ext H1) ?_ (fun H2 hx2 hg => ?_) (fun H2 hx2 hg => ?_)
  · simp only [o_pure, o_callF, POp.ev, Opd.ev, gv, setD, List.map, Option.some.injEq, exists_eq_left']
    refine (systemOver_ok lim s ls us ss k L U H.next H1 (by omega) (hs.ext hx) hbp hbl hn hn2 hL hU).mono ?_
    rintro _ H2 ⟨rfl, hx2⟩
    have hb2 := hbp.ext hbl hx2
    rw [ask_over]
    cases h1 : overB ss k L U
    · simp only [o_cont, o_pure, o_guard, gk_tf, o_nil, POp.ev, Opd.ev, gv, setD, Option.some.injEq, exists_eq_left', pickV, unV, Bool.not_false]
      exact ⟨by simp, trivial, hx2⟩
    simp only [o_cont, o_pure, o_guard, gk_ff, POp.ev, Opd.ev, gv, setD, Option.some.injEq, exists_eq_left', pickV, binV, load1V, unV, fadV, ne_eq, not_true_eq_false, if_false, Bool.not_true, List.getElem?_cons_zero, Nat.zero_add, cell_blk hb2.blk]
    by_cases h2 : k > 4
    · have d2 : decide (k > 4) = true := by simpa using h2
      have d3 : decide (k ≤ 4) = false := by simp; omega
      simp only [o_pure, o_guard, gk_tf, o_nil, POp.ev, Opd.ev, gv, setD, Option.some.injEq, exists_eq_left', pickV, d2, d3]
      exact ⟨by simp, trivial, hx2⟩
    have d2 : decide (k > 4) = false := by simpa using h2
    have d3 : decide (k ≤ 4) = true := by simp; omega
    simp only [o_pure, o_callF, o_guard, gk_ff, POp.ev, Opd.ev, gv, setD, List.map, Option.some.injEq, exists_eq_left', d2, d3]
    refine (isOrder_ok lim o order H2 (SlI.ext ho1 hx2) (by omega)).eq ?_
    rw [ord_eq]
    unfold ordN
    cases h4 : ordS order
    · simp only [o_cont, o_pure, o_guard, gk_ff, gk_tf, o_nil, POp.ev, Opd.ev, gv, setD, Option.some.injEq, exists_eq_left', pickV, unV, Bool.not_false]
      exact ⟨by simp, trivial, hx2⟩
    simp only [o_cont, o_pure, o_guard, gk_ff, o_nil, POp.ev, Opd.ev, gv, setD, Option.some.injEq, exists_eq_left', pickV, binV, unV, ne_eq, not_true_eq_false, if_false, Bool.not_true, hs.lenV, ho.lenV]
    refine ⟨?_, trivial, hx2⟩
    by_cases h5 : order.length = ss.length <;> simp [h5]
    omega
  · refine s_reg ?_
    simp only [o_pure, o_nil, POp.ev, Opd.ev, setD, List.set, Option.some.injEq, exists_eq_left']
    refine s_ret1 ?_
    simp +decide only [p_seq_ret, p_fin_ret, resV, resOne, resL, gv, Option.some.injEq, exists_eq_left', Option.bind_some, Option.map_some]
    simp only [Bool.not_eq_true'] at hg
    unfold pmR
    rw [hg]
    exact ⟨rfl, hx.trans hx2⟩
  · simp only [Bool.not_eq_false'] at hg
    have hg' := hg
    simp only [Bool.and_eq_true] at hg'
    obtain ⟨kn, n, rfl, hsn, hc, hgs⟩ := askB_crs hg'.1
    have ho2 := hg'.2
    simp only [ordN, Bool.and_eq_true, decide_eq_true_eq] at ho2
    obtain ⟨_, _, hin⟩ := ordS_in ho2.2
    have hn2' := hx2.next
    refine s_skip1 ?_
    simp +decide only [p_seq_normal]
    refine s_reg ?_
    simp only [o_pure, o_callF, POp.ev, Opd.ev, gv, setD, List.map, Option.some.injEq, exists_eq_left']
    refine (passesMiranda_ok lim s ls us o ss L U order kn n H.next H2 (by omega) (hs.ext (hx.trans hx2)) (hbp.ext hbl hx2) (by omega) (SlI.ext ho1 hx2) hc (fun p hp => hsn ▸ goodSS_pol hgs p hp) hsn (by omega) (by intro x hxo; have := hin x hxo; omega)).mono ?_
    rintro _ H3 ⟨rfl, hx3⟩
    simp only [o_cont, o_pure, o_nil, POp.ev, Opd.ev, gv, setD, List.set, Option.some.injEq, exists_eq_left']
    refine s_ret1 ?_
    simp +decide only [p_fin_ret, resV, resOne, resL, gv, Option.some.injEq, exists_eq_left', Option.bind_some, Option.map_some]
    unfold pmR
    rw [hg]
    exact ⟨rfl, (hx.trans hx2).trans hx3⟩
end Go.Proofs.Ytaimceodhhgnnaa

/- FnExactPassesMiranda, the law's contract: for all arguments the law answers true; no condition. -/
namespace Go.Proofs.Ytaimceodhhgnnaa
open Go.Ab Ints
set_option linter.unusedSimpArgs false
set_option linter.unusedVariables false
theorem szTermSSb_ok (lim : Nat) (s : Value) (ss : List (List Tm)) (left : Int) (H : AHeap) (hs : SlSS H s ss) (h0 : -20000000000000 ≤ left) (h1 : left ≤ 1000000000) (hn : ss.length ≤ 20000000000000) (hn2 : ∀ p ∈ ss, p.length ≤ 20000000000000) :
    ACalls Try.prog lim n_laws_szTermSS [s, .int .i64 left] H fun v H' => (∃ r : Int, v = .int .i64 r ∧ (¬ r < 0 → (ss.length : Int) + tot ss + r ≤ left)) ∧ H' = H := by
  refine is_laws_szTermSS.go rfl ?_
  unfold c_laws_szTermSS
  have hw : IntKind.i64.wrap (left - ss.length) = left - ss.length := by rw [IntKind.wrap_i64]; omega
  refine s_reg ?_
  simp only [o_pure, o_nil, POp.ev, Opd.ev, env0, gu, setD, List.set, Option.some.injEq, exists_eq_left']
  refine s_reg ?_
  simp only [o_pure, o_nil, POp.ev, Opd.ev, gv, setD, List.set, Option.some.injEq, exists_eq_left', binV, ne_eq, not_true_eq_false, if_false, hs.lenV, hw]
  refine s_test ?_
  simp only [o_pure, o_nil, POp.ev, Opd.ev, gv, setD, Option.some.injEq, exists_eq_left', binV, ne_eq, not_true_eq_false, if_false]
  refine Test.split (fun h => ?_) (fun h => ?_)
  · refine s_reg ?_
    simp only [o_pure, o_nil, POp.ev, Opd.ev, setD, List.set, Option.some.injEq, exists_eq_left']
    refine s_ret1 ?_
    simp +decide only [p_seq_ret, p_fin_ret, resV, resOne, gv, Option.some.injEq, exists_eq_left']
    exact ⟨⟨-1, rfl, by omega⟩, trivial⟩
  have hge : 0 ≤ left - (ss.length : Int) := by simpa using h
  refine s_skip1 ?_
  simp +decide only [p_seq_normal]
  refine s_assoc (s_reg ?_)
  simp only [o_pure, o_nil, POp.ev, Opd.ev, setD, List.set, Option.some.injEq, exists_eq_left']
  refine s_block ?_
  refine s_loop1 (fun j e' H' => H' = H ∧ ∃ (i : Nat), i + j = ss.length ∧ 0 ≤ left - (ss.length : Int) - tot (ss.take i) ∧ e' = [s, .int .i64 (left - (ss.length : Int) - tot (ss.take i)), .int .i64 0, .int .i64 i]) ss.length ⟨rfl, 0, by omega, by simpa [tot] using hge, by simp [tot]⟩ ?_
  rintro j e' H ⟨rfl, i, hij, hnn, rfl⟩
  refine s_test ?_
  simp only [o_pure, o_nil, POp.ev, Opd.ev, gv, setD, Option.some.injEq, exists_eq_left', binV, ne_eq, not_true_eq_false, if_false, hs.lenV]
  refine Test.split (fun hlt => ?_) (fun hlt => ?_)
  · have hlt' : i < ss.length := by simpa using hlt
    obtain ⟨b1, o1, s1, k1, k2, k3⟩ := hs.at hlt'
    have hpl := hn2 _ (List.getElem_mem hlt')
    have htk := tot_take_succ hlt'
    refine s_skip1 ?_
    simp +decide only [p_seq_normal]
    refine s_block ?_
    refine s_reg ?_
    simp only [o_pure, o_callF, POp.ev, Opd.ev, gv, setD, List.map, Option.some.injEq, exists_eq_left', load1V, k1, k2]
    refine (szTermS_ok _ _ _ _ _ k3.lenV (by omega) (by omega) hpl).eq ?_
    by_cases hc : left - (ss.length : Int) - tot (ss.take i) - ss[i].length < 0
    · rw [if_pos hc]
      have d1 : decide ((-1 : Int) < 0) = true := by decide
      simp only [o_cont, o_pure, o_nil, POp.ev, Opd.ev, gv, setD, List.set, Option.some.injEq, exists_eq_left']
      refine s_test1 ?_
      simp only [o_pure, o_nil, POp.ev, Opd.ev, gv, setD, Option.some.injEq, exists_eq_left', binV, ne_eq, not_true_eq_false, if_false, d1]
      refine Test.true_ (s_reg ?_)
      simp only [o_pure, o_nil, POp.ev, Opd.ev, setD, List.set, Option.some.injEq, exists_eq_left']
      refine s_ret1 ?_
      simp +decide only [p_seq_ret, p_block_ret, p_fin_ret, resV, resOne, gv, Option.some.injEq, exists_eq_left']
      exact ⟨⟨-1, rfl, by omega⟩, trivial⟩
    · rw [if_neg hc]
      have d1 : decide (left - (ss.length : Int) - tot (ss.take i) - ss[i].length < 0) = false := by simpa using hc
      simp only [o_cont, o_pure, o_nil, POp.ev, Opd.ev, gv, setD, List.set, Option.some.injEq, exists_eq_left']
      refine s_test1 ?_
      simp only [o_pure, o_nil, POp.ev, Opd.ev, gv, setD, Option.some.injEq, exists_eq_left', binV, ne_eq, not_true_eq_false, if_false, d1]
      refine Test.false_ (s_skip1 ?_)
      simp +decide only [p_seq_normal, p_block_normal]
      refine s_reg1 ?_
      simp only [o_pure, o_nil, POp.ev, Opd.ev, gv, setD, List.set, Option.some.injEq, exists_eq_left', binV, ne_eq, not_true_eq_false, if_false, add1 (i := i) (by omega)]
      simp +decide only [p_seq_normal]
      exact Round.mk (j - 1) (by omega) ⟨rfl, i + 1, by omega, by omega, by rw [htk]; congr 3; simp; omega⟩
  · have hge : i = ss.length := by simp at hlt; omega
    subst hge
    refine s_exit1 ?_
    simp +decide only [p_seq_normal, p_seq_exit, p_block_exit, reduceIte]
    refine s_reg ?_
    simp only [o_pure, o_nil, POp.ev, Opd.ev, gv, setD, List.set, Option.some.injEq, exists_eq_left']
    refine s_ret1 ?_
    simp +decide only [p_fin_ret, resV, resOne, gv, Option.some.injEq, exists_eq_left']
    rw [List.take_length] at hnn ⊢
    exact ⟨⟨_, rfl, by omega⟩, trivial⟩

theorem lawPassesMiranda_ok (lim : Nat) (s v o : Value) (ss : List (List Tm)) (k : Int) (L U order : List Int) (H : AHeap) (hl : lim ≤ H.next) (hs : SlSS H s ss) (hv : BoxV H v k L U) (ho : SlI H o order) (hno : order.length ≤ 20000000000000) (hn : ss.length ≤ 20000000000000) (hn2 : ∀ p ∈ ss, p.length ≤ 20000000000000) (hL : L.length ≤ 20000000000000) (hU : U.length ≤ 20000000000000) :
    ACalls Try.prog lim n_laws_FnExactPassesMiranda [s, v, o] H fun v H' => v = .bool true := by
  obtain ⟨ls, us, rfl, hls, hus⟩ := hv
  refine is_laws_FnExactPassesMiranda.go rfl ?_
  unfold c_laws_FnExactPassesMiranda
  refine s_reg ?_
  simp only [o_pure, o_eff, o_nil, POp.ev, Opd.ev, EOp.ev, env0, gu, gv, setD, List.set, Option.map_some, Option.some.injEq, exists_eq_left', boxH, cellsV]
  have hx : Ext H (H.alloc [.int .i64 k, ls, us]) := Ext.alloc _ _
  have hls1 := SlI.ext hls hx
  have hus1 := SlI.ext hus hx
  have hs1 := hs.ext hx
  have hbp : (H.alloc [.int .i64 k, ls, us]).blk H.next = some [.int .i64 k, ls, us] := alloc_new _ _
  have hbl : H.next < (H.alloc [.int .i64 k, ls, us]).next := Nat.lt_succ_self _
  have ho1 := SlI.ext ho hx
  generalize H.alloc [.int .i64 k, ls, us] = H1 at hx hls1 hus1 hs1 hbp hbl ho1 ⊢
  have hn1 := hx.next
  generalize H.next = q at *
  have hw0 : IntKind.i64.wrap (1000000 - (order.length : Int)) = 1000000 - (order.length : Int) := wr_id (by omega) (by omega)
  refine s_reg ?_
  simp only [o_pure, o_nil, POp.ev, Opd.ev, gv, setD, List.set, Option.some.injEq, exists_eq_left', binV, ne_eq, not_true_eq_false, if_false, ho1.lenV, hw0]
  refine s_reg ?_
  simp only [o_pure, o_callF, POp.ev, Opd.ev, gv, setD, List.map, Option.some.injEq, exists_eq_left']
  refine (szTermSSb_ok lim _ _ (1000000 - (order.length : Int)) _ hs1 (by omega) (by omega) hn hn2).mono ?_
  rintro _ HH ⟨⟨z, rfl, hz⟩, hh⟩
  subst HH
  simp only [o_cont, o_pure, o_nil, POp.ev, Opd.ev, gv, setD, List.set, Option.some.injEq, exists_eq_left']
  refine s_test ?_
  simp only [o_pure, o_nil, POp.ev, Opd.ev, gv, setD, Option.some.injEq, exists_eq_left', binV, ne_eq, not_true_eq_false, if_false]
  refine Test.split (fun h => ?_) (fun h => ?_)
  · refine s_reg ?_
    simp only [o_pure, o_nil, POp.ev, Opd.ev, setD, List.set, Option.some.injEq, exists_eq_left']
    refine s_ret1 ?_
    simp +decide only [p_seq_ret, p_fin_ret, resV, resOne, gv, Option.some.injEq, exists_eq_left']
  have hz0 : ¬ z < 0 := by simpa using h
  have hsz := hz hz0
  clear hz h hn hn2
  have hn : ss.length ≤ 1000000 := by omega
  have hn2 : ∀ p ∈ ss, p.length ≤ 1000000 := by
    intro p hp
    obtain ⟨j, hj, rfl⟩ := List.mem_iff_getElem.1 hp
    have := len_le_tot hj
    omega
  refine s_skip1 ?_
  simp +decide only [p_seq_normal]
  refine s_reg ?_
  simp only [o_pure, o_callF, POp.ev, Opd.ev, gv, setD, List.map, Option.some.injEq, exists_eq_left', load3 hbp]
  refine (szBox_ok lim _ k L U z H1 (by omega) ⟨_, _, rfl, hls1, hus1⟩ hL hU (by omega) (by omega)).mono ?_
  rintro _ H2 ⟨⟨z2, rfl, hz2⟩, hx2⟩
  simp only [o_cont, o_pure, o_nil, POp.ev, Opd.ev, gv, setD, List.set, Option.some.injEq, exists_eq_left']
  refine s_test ?_
  simp only [o_pure, o_nil, POp.ev, Opd.ev, gv, setD, Option.some.injEq, exists_eq_left', binV, ne_eq, not_true_eq_false, if_false]
  refine Test.split (fun h => ?_) (fun h => ?_)
  · refine s_reg ?_
    simp only [o_pure, o_nil, POp.ev, Opd.ev, setD, List.set, Option.some.injEq, exists_eq_left']
    refine s_ret1 ?_
    simp +decide only [p_seq_ret, p_fin_ret, resV, resOne, gv, Option.some.injEq, exists_eq_left']
  have hsz2 := hz2 (by simpa using h)
  clear hz2 h hL hU
  have hL : L.length ≤ 1000000 := by omega
  have hU : U.length ≤ 1000000 := by omega
  refine s_skip1 ?_
  simp +decide only [p_seq_normal]
  have keep : ∀ G, Ext H1 G → SlSS G s ss ∧ SlI G ls L ∧ SlI G us U ∧ G.blk q = some [.int .i64 k, ls, us] ∧ SlI G o order ∧ lim ≤ G.next ∧ q < G.next := fun G hg => by
    have := hg.next
    exact ⟨hs1.ext hg, SlI.ext hls1 hg, SlI.ext hus1 hg, by rw [hg.blk _ hbl]; exact hbp, SlI.ext ho1 hg, by omega, by omega⟩
  generalize hR : pmR ss k L U order = R
  have hne : ∀ b : Bool, (!(b == b)) = false := by decide
  -- the reference on copies
  obtain ⟨ks, kl, ku, kb, ko, kn, kq⟩ := keep _ hx2
  refine s_reg ?_
  simp only [o_pure, o_callN, POp.ev, Opd.ev, gv, setD, List.map, Option.some.injEq, exists_eq_left', load3 kb]
  refine (toTermSS_ok _ _ _ false _ (Nat.le_refl _) ks hn hn2).use ?_
  rintro a1 HA ⟨hA, hxA⟩ _
  obtain ⟨ks, kl, ku, kb, ko, kn, kq⟩ := keep _ ((hx2).trans hxA)
  simp only [o_cont, o_callF, Opd.ev, gv, setD, List.map]
  refine (toBox_ok lim _ k L U false HA kn ⟨_, _, rfl, kl, ku⟩ hL hU).mono ?_
  rintro _ HB ⟨bs, bt, bb, bc, rfl, _, _, _, hb1, hb2, hxB⟩
  simp only [o_cont, o_callF, Opd.ev, gv, setD, List.map]
  obtain ⟨_, _, _, _, ko, kn, _⟩ := keep _ (((hx2).trans hxA).trans hxB)
  refine (Ints.copyI_ok lim _ order false HB kn ko (by omega)).mono ?_
  rintro a3 HC ⟨⟨bo, _, hC⟩, hxC⟩
  simp only [o_cont, o_callF, Opd.ev, gv, setD, List.map]
  obtain ⟨_, _, _, _, _, kn, kq⟩ := keep _ ((((hx2).trans hxA).trans hxB).trans hxC)
  refine (sPasses_ok lim _ _ _ ss k L U order HC kn ((hA.ext hxB).ext hxC).slss ⟨_, _, rfl, (hb1.ext hxC).sl, (hb2.ext hxC).sl⟩ hC.sl hn hn2 hL hU (by omega)).mono ?_
  rintro _ G1 ⟨rfl, hxG1'⟩
  rw [hR]
  have hxG1 := ((((hx2).trans hxA).trans hxB).trans hxC).trans hxG1'
  simp only [o_cont, o_pure, o_nil, POp.ev, Opd.ev, gv, setD, List.set, Option.some.injEq, exists_eq_left', extV, List.getElem?_toArray, List.getElem?_cons_zero, List.getElem?_cons_succ]
  -- the program on its own copies
  obtain ⟨ks, kl, ku, kb, ko, kn, kq⟩ := keep _ hxG1
  refine s_reg ?_
  simp only [o_pure, o_callF, POp.ev, Opd.ev, gv, setD, List.map, Option.some.injEq, exists_eq_left']
  refine (toTermSS_ok lim _ _ false _ kn ks hn hn2).mono ?_
  rintro x G2 ⟨hX, hxG2'⟩
  rcases hX with ⟨h0, _⟩ | ⟨xb, xvs, xfs, xbs, hX⟩
  · cases h0
  simp only [o_cont, o_pure, o_nil, POp.ev, Opd.ev, gv, setD, List.set, Option.some.injEq, exists_eq_left']
  have hxG2 := hxG1.trans hxG2'
  clear hxG2'
  obtain ⟨ks, kl, ku, kb, ko, kn, kq⟩ := keep _ hxG2
  refine s_reg ?_
  simp only [o_pure, o_callF, POp.ev, Opd.ev, gv, setD, List.map, Option.some.injEq, exists_eq_left', load3 kb]
  refine (toBox_ok lim _ k L U false _ kn ⟨_, _, rfl, kl, ku⟩ hL hU).mono ?_
  rintro _ G3 ⟨bs, bt, bb, bc, rfl, _, _, _, hb1, hb2, hxG3'⟩
  rcases hb1 with ⟨h0, _⟩ | hb1
  · cases h0
  rcases hb2 with ⟨h0, _⟩ | hb2
  · cases h0
  replace hX := hX.ext hxG3'
  have hxG3 := hxG2.trans hxG3'
  clear hxG3'
  obtain ⟨ks, kl, ku, kb, ko, kn, kq⟩ := keep _ hxG3
  simp only [o_cont, o_eff, o_nil, Opd.ev, EOp.ev, gv, setD, List.set, Option.some.injEq, exists_eq_left', store3_new (lim := lim) (H := G3) kn]
  have hxa := Ext.alloc G3 [.int .i64 k, bs, bt]
  have hp : (G3.alloc [.int .i64 k, bs, bt]).blk G3.next = some [.int .i64 k, bs, bt] := alloc_new _ _
  have hpl : G3.next < (G3.alloc [.int .i64 k, bs, bt]).next := Nat.lt_succ_self _
  generalize G3.alloc [.int .i64 k, bs, bt] = G4 at hxa hp hpl ⊢
  generalize G3.next = pp at hp hpl ⊢
  replace hX := hX.ext hxa
  replace hb1 := hb1.ext hxa
  replace hb2 := hb2.ext hxa
  have hxG4 := hxG3.trans hxa
  clear hxa
  obtain ⟨ks, kl, ku, kb, ko, kn, kq⟩ := keep _ hxG4
  refine s_reg ?_
  simp only [o_pure, o_callF, POp.ev, Opd.ev, gv, setD, List.map, Option.some.injEq, exists_eq_left']
  refine (Ints.copyI_ok lim _ order false _ kn ko (by omega)).mono ?_
  rintro a3 G5 ⟨⟨bo, _, hO⟩, hxG5'⟩
  rcases hO with ⟨h0, _⟩ | hO
  · cases h0
  simp only [o_cont, o_pure, o_nil, POp.ev, Opd.ev, gv, setD, List.set, Option.some.injEq, exists_eq_left']
  replace hX := hX.ext hxG5'
  replace hb1 := hb1.ext hxG5'
  replace hb2 := hb2.ext hxG5'
  replace hp : G5.blk pp = some [.int .i64 k, bs, bt] := by rw [hxG5'.blk _ hpl]; exact hp
  replace hpl := Nat.lt_of_lt_of_le hpl hxG5'.next
  have hxG5 := hxG4.trans hxG5'
  clear hxG5'
  have step : ∀ G, Ext G5 G → LaidX G G1.next G2.next xb xvs xfs xbs x ss false ∧ Laid G bb bs L ∧ Laid G bc bt U ∧ G.blk pp = some [.int .i64 k, bs, bt] ∧ Laid G bo a3 order := fun G hg => ⟨hX.ext hg, hb1.ext hg, hb2.ext hg, by rw [hg.blk _ hpl]; exact hp, hO.ext hg⟩
  obtain ⟨_, _, _, _, _, kn, _⟩ := keep _ hxG5
  refine s_reg ?_
  simp only [o_pure, o_callF, POp.ev, Opd.ev, gv, setD, List.map, Option.some.injEq, exists_eq_left', load3 hp]
  refine (iPasses_ok lim _ _ _ ss k L U order G5 kn hX.slss ⟨_, _, rfl, hb1.vec.sl, hb2.vec.sl⟩ hO.vec.sl hn hn2 hL hU (by omega)).mono ?_
  rintro _ J1 ⟨rfl, hj1⟩
  rw [hR]
  have hxJ1 := hxG5.trans hj1
  simp only [o_cont, o_pure, o_nil, POp.ev, Opd.ev, gv, setD, List.set, Option.some.injEq, exists_eq_left', extV, List.getElem?_toArray, List.getElem?_cons_zero, List.getElem?_cons_succ]
  -- both answers are the same
  refine s_test_I false (Ext J1) ?_ (fun J2 hj2 hg0 => by cases hg0) (fun J2 hj2 _ => ?_)
  · skip
    simp only [o_pure, o_guard, gk_ff, o_nil, POp.ev, Opd.ev, gv, setD, Option.some.injEq, exists_eq_left', pickV, boolEq, if_true, beq_self_eq_true, Bool.not_true]
    exact ⟨trivial, trivial, Ext.refl _⟩
  refine s_skip1 ?_
  simp +decide only [p_seq_normal]
  have hxJ2 := hxJ1.trans hj2
  have hj02 := hj1.trans hj2
  -- the system is as it was
  refine s_test_I false (Ext J2) ?_ (fun J3 hj3 hg0 => by cases hg0) (fun J3 hj3 _ => ?_)
  · obtain ⟨ks, kl, ku, kb, ko, kn, kq⟩ := keep _ hxJ2
    simp only [o_pure, o_callF, POp.ev, Opd.ev, gv, setD, List.map, Option.some.injEq, exists_eq_left']
    refine (toTermSS_ok lim _ _ false _ kn ks hn hn2).mono ?_
    rintro y J ⟨hY, hyx⟩
    rcases hY with ⟨h0, _⟩ | ⟨yb, yvs, yfs, ybs, hY⟩
    · cases h0
    simp only [o_cont, o_callF, Opd.ev, gv, setD, List.map]
    refine (intactTermSS_ok lim _ _ _ _ _ _ _ _ _ _ _ _ _ _ _ _ (step _ (hj02.trans hyx)).1 hY hn hn2).mono ?_
    rintro _ J' ⟨rfl, hyx'⟩
    simp only [o_cont, o_pure, o_nil, POp.ev, Opd.ev, gv, setD, Option.some.injEq, exists_eq_left', unV, Bool.not_true]
    exact ⟨trivial, trivial, hyx.trans hyx'⟩
  refine s_skip1 ?_
  simp +decide only [p_seq_normal]
  have hxJ3 := hxJ2.trans hj3
  have hj03 := hj02.trans hj3
  -- the box is as it was
  refine s_test_I false (Ext J3) ?_ (fun J4 hj4 hg0 => by cases hg0) (fun J4 hj4 _ => ?_)
  · obtain ⟨ks, kl, ku, kb, ko, kn, kq⟩ := keep _ hxJ3
    obtain ⟨_, _, _, t4, _⟩ := step _ hj03
    simp only [o_pure, o_callN, POp.ev, Opd.ev, gv, setD, List.map, Option.some.injEq, exists_eq_left', load3 t4, load3 kb]
    refine (toBox_ok _ _ k L U false J3 (Nat.le_refl _) ⟨_, _, rfl, kl, ku⟩ hL hU).use ?_
    rintro _ J ⟨es, et, eb, ec, rfl, _, _, _, he1, he2, hyx⟩ _
    rcases he1 with ⟨h0, _⟩ | he1
    · cases h0
    rcases he2 with ⟨h0, _⟩ | he2
    · cases h0
    obtain ⟨_, _, _, _, _, kn, _⟩ := keep _ (hxJ3.trans hyx)
    obtain ⟨_, t2, t3, _, _⟩ := step _ (hj03.trans hyx)
    simp only [o_cont, o_callF, Opd.ev, gv, setD, List.map]
    refine (intactBox_ok lim k L U bb bc eb ec bs bt es et J kn t2 t3 he1 he2 hL hU).mono ?_
    rintro _ J' ⟨rfl, hyx'⟩
    simp only [o_cont, o_pure, o_nil, POp.ev, Opd.ev, gv, setD, Option.some.injEq, exists_eq_left', unV, Bool.not_true]
    exact ⟨trivial, trivial, hyx.trans hyx'⟩
  refine s_skip1 ?_
  simp +decide only [p_seq_normal]
  have hxJ4 := hxJ3.trans hj4
  have hj04 := hj03.trans hj4
  -- the order is as it was
  refine s_test_I false (Ext J4) ?_ (fun J5 hj5 hg0 => by cases hg0) (fun J5 hj5 _ => ?_)
  · obtain ⟨ks, kl, ku, kb, ko, kn, kq⟩ := keep _ hxJ4
    simp only [o_pure, o_callF, POp.ev, Opd.ev, gv, setD, List.map, Option.some.injEq, exists_eq_left']
    refine (Ints.copyI_ok lim _ order false _ kn ko (by omega)).mono ?_
    rintro a4 J ⟨⟨bo2, _, hO2⟩, hyx⟩
    rcases hO2 with ⟨h0, _⟩ | hO2
    · cases h0
    obtain ⟨_, _, _, _, t5⟩ := step _ (hj04.trans hyx)
    simp only [o_cont, o_callF, Opd.ev, gv, setD, List.map]
    obtain ⟨e0, e1, e2⟩ := t5
    obtain ⟨rfl, e3, e4⟩ := hO2
    rw [e0]
    refine (Ints.intactIntS_ok _ _ _ order _ e2 e4 e1 e3 (by omega)).eq ?_
    simp only [o_cont, o_pure, o_nil, POp.ev, Opd.ev, gv, setD, Option.some.injEq, exists_eq_left', unV, Bool.not_true]
    exact ⟨trivial, trivial, hyx⟩
  refine s_skip1 ?_
  simp +decide only [p_seq_normal]
  have hxJ5 := hxJ4.trans hj5
  -- a second answer, on copies without room
  obtain ⟨ks, kl, ku, kb, ko, kn, kq⟩ := keep _ hxJ5
  refine s_reg ?_
  simp only [o_pure, o_callN, POp.ev, Opd.ev, gv, setD, List.map, Option.some.injEq, exists_eq_left', load3 kb]
  refine (toTermSS_ok _ _ _ true _ (Nat.le_refl _) ks hn hn2).use ?_
  rintro a1 HA ⟨hA, hxA⟩ _
  obtain ⟨ks, kl, ku, kb, ko, kn, kq⟩ := keep _ ((hxJ5).trans hxA)
  simp only [o_cont, o_callF, Opd.ev, gv, setD, List.map]
  refine (toBox_ok lim _ k L U true HA kn ⟨_, _, rfl, kl, ku⟩ hL hU).mono ?_
  rintro _ HB ⟨bs, bt, bb, bc, rfl, _, _, _, hb1, hb2, hxB⟩
  simp only [o_cont, o_callF, Opd.ev, gv, setD, List.map]
  obtain ⟨_, _, _, _, ko, kn, _⟩ := keep _ (((hxJ5).trans hxA).trans hxB)
  refine (Ints.copyI_ok lim _ order true HB kn ko (by omega)).mono ?_
  rintro a3 HC ⟨⟨bo, _, hC⟩, hxC⟩
  simp only [o_cont, o_callF, Opd.ev, gv, setD, List.map]
  obtain ⟨_, _, _, _, _, kn, kq⟩ := keep _ ((((hxJ5).trans hxA).trans hxB).trans hxC)
  refine (iPasses_ok lim _ _ _ ss k L U order HC kn ((hA.ext hxB).ext hxC).slss ⟨_, _, rfl, (hb1.ext hxC).sl, (hb2.ext hxC).sl⟩ hC.sl hn hn2 hL hU (by omega)).mono ?_
  rintro _ K1 ⟨rfl, hxK1'⟩
  rw [hR]
  have hxK1 := ((((hxJ5).trans hxA).trans hxB).trans hxC).trans hxK1'
  simp only [o_cont, o_pure, o_nil, POp.ev, Opd.ev, gv, setD, List.set, Option.some.injEq, exists_eq_left', extV, List.getElem?_toArray, List.getElem?_cons_zero, List.getElem?_cons_succ]
  refine s_test_I false (Ext K1) ?_ (fun K2 hk2 hg0 => by cases hg0) (fun K2 hk2 _ => ?_)
  · skip
    simp only [o_pure, o_guard, gk_ff, o_nil, POp.ev, Opd.ev, gv, setD, Option.some.injEq, exists_eq_left', pickV, boolEq, if_true, beq_self_eq_true, Bool.not_true]
    exact ⟨trivial, trivial, Ext.refl _⟩
  refine s_skip1 ?_
  simp +decide only [p_seq_normal]
  refine s_reg ?_
  simp only [o_pure, o_nil, POp.ev, Opd.ev, setD, List.set, Option.some.injEq, exists_eq_left']
  refine s_ret1 ?_
  simp +decide only [p_fin_ret, resV, resOne, gv, Option.some.injEq, exists_eq_left']
end Go.Proofs.Ytaimceodhhgnnaa

/- The rows' arguments: what a law of this seat is handed, told of the abstract heap; no condition. -/
namespace Go.Proofs.Ytaimceodhhgnnaa
open Go.Ab
set_option linter.unusedSimpArgs false
set_option linter.unusedVariables false
set_option maxRecDepth 100000
theorem own : ownKnob Try.prog.godebug = none := by kernel_rfl
theorem laidOut : laidOutB Try.prog = true := by kernel_rfl
theorem shp3 {P : Program} {H : AHeap} {n a b c} {avs : List Value} (h : ShpAll P H n [a, b, c] avs) : ∃ v u w, avs = [v, u, w] ∧ ShpV P H n a v ∧ ShpV P H n b u ∧ ShpV P H n c w := by
  match avs, h with
  | [v, u, w], h => exact ⟨v, u, w, rfl, h.1, h.2.1, h.2.2.1⟩
theorem shp_cell {H : AHeap} {n : Nat} {cs : List Value} (h : Shp Try.prog H (n + 1) 3 cs) : ∃ x, cs = [vi x] := by
  unfold Shp at h
  simp only [Try.underlying3] at h
  obtain ⟨x, h, h2⟩ := h
  exact ⟨x, h⟩
/-- a term -/
theorem shp_term {H : AHeap} {n : Nat} {cs : List Value} (h : Shp Try.prog H (n + 2) 114 cs) : ∃ t, cs = tc t := by
  unfold Shp at h
  simp only [Try.underlying114] at h
  obtain ⟨hc, hf⟩ := h
  have e4 : Try.prog.cellsOf 114 = 4 := by kernel_rfl
  have e1 : Try.prog.cellsOf 3 = 1 := by kernel_rfl
  rw [e4] at hc
  match cs, hc with
  | [a, b, c, d], _ =>
    have f0 := hf _ (List.mem_cons_self ..)
    have f1 := hf _ (List.mem_cons_of_mem _ (List.mem_cons_self ..))
    have f2 := hf _ (List.mem_cons_of_mem _ (List.mem_cons_of_mem _ (List.mem_cons_self ..)))
    have f3 := hf _ (List.mem_cons_of_mem _ (List.mem_cons_of_mem _ (List.mem_cons_of_mem _ (List.mem_cons_self ..))))
    simp only [e1, List.drop_zero, List.drop_succ_cons, List.take_succ_cons, List.take_zero] at f0 f1 f2 f3
    obtain ⟨x0, g0⟩ := shp_cell f0
    obtain ⟨x1, g1⟩ := shp_cell f1
    obtain ⟨x2, g2⟩ := shp_cell f2
    obtain ⟨x3, g3⟩ := shp_cell f3
    cases g0
    cases g1
    cases g2
    cases g3
    exact ⟨⟨x0, x1, x2, x3⟩, rfl⟩
theorem cells_terms : ∀ (m : Nat) (cells : List Value), cells.length = m * 4 → (∀ i, i < m → ∃ t, (cells.drop (i * 4)).take 4 = tc t) → ∃ zs : List Tm, zs.length = m ∧ cells = tcs zs
  | 0, cells, hl, _ => ⟨[], rfl, List.length_eq_zero_iff.1 (by omega)⟩
  | m + 1, cells, hl, h => by
    obtain ⟨t, ht⟩ := h 0 (by omega)
    obtain ⟨zs, h1, h2⟩ := cells_terms m (cells.drop 4) (by simp; omega) (fun i hi => by
      obtain ⟨u, hu⟩ := h (i + 1) (by omega)
      refine ⟨u, ?_⟩
      rw [List.drop_drop, ← hu]
      congr 2
      omega)
    refine ⟨t :: zs, by simp [h1], ?_⟩
    rw [tcs_cons, ← h2, ← ht]
    simp
theorem shp_terms {H : AHeap} {n : Nat} {cs : List Value} (h : Shp Try.prog H (n + 3) 63 cs) : ∃ v l, cs = [v] ∧ SlT H v l ∧ l.length ≤ 20000000000000 := by
  unfold Shp at h
  simp only [Try.underlying63] at h
  have hc : Try.prog.cellsOf 114 = 4 := by kernel_rfl
  rcases h with rfl | ⟨b, len, cap, rfl, hb, hl, hm, h5⟩
  · exact ⟨_, [], rfl, Sl.nil _ _, by simp⟩
  · have e8 : Try.prog.bytesOf 114 = 32 := by kernel_rfl
    have er : reachBytes = 140737488351232 := rfl
    rw [e8, er] at hm
    rcases h5 with h5 | ⟨cells, h1, h2, h3⟩
    · have : len = 0 := by omega
      subst this
      exact ⟨_, [], rfl, ⟨by simp [tcs], some ⟨b, 0, some 0⟩, cap, rfl, by simp, (by intro h; cases h), (by intro ad h; cases h; exact ⟨.inl rfl, hb⟩), (by intro h; exact absurd rfl h)⟩, by simp⟩
    · rw [hc] at h2 h3
      obtain ⟨zs, hz, rfl⟩ := cells_terms cap cells h2 (fun i hi => shp_term (h3 i hi))
      have htl : (zs.take len).length = len := by simp; omega
      refine ⟨_, zs.take len, rfl, ?_, by omega⟩
      unfold SlT
      rw [htl]
      refine ⟨by rw [tcs_length, htl], some ⟨b, 0, some 0⟩, cap, rfl, by omega, (by intro h; cases h), (by intro ad h; cases h; exact ⟨.inl rfl, hb⟩), fun _ => ⟨b, 0, some 0, [], tcs (zs.drop len), rfl, ?_, rfl⟩⟩
      rw [h1, List.nil_append, ← tcs_append, List.take_append_drop]
theorem list_sys {H : AHeap} {B : Nat} : ∀ (cells : List Value), (∀ i, i < cells.length → ∃ s p, cells[i]? = some s ∧ SlT H s p ∧ p.length ≤ B) →
    ∃ ss : List (List Tm), ss.length = cells.length ∧ ∀ (i : Nat) (p : List Tm), ss[i]? = some p → ∃ s, cells[i]? = some s ∧ SlT H s p ∧ p.length ≤ B
  | [], _ => ⟨[], rfl, by intro i p h; simp at h⟩
  | c :: cells, h => by
    obtain ⟨s, p, h1, h2, h3⟩ := h 0 (by simp)
    obtain ⟨ss, g1, g2⟩ := list_sys cells (fun i hi => by simpa using h (i + 1) (by simp; omega))
    refine ⟨p :: ss, by simp [g1], fun i q hq => ?_⟩
    cases i with
    | zero => simp at hq; subst hq; exact ⟨s, h1, h2, h3⟩
    | succ i => simpa using g2 i q (by simpa using hq)
/-- a system -/
theorem shp_sys {H : AHeap} {n : Nat} {v : Value} (h : ShpV Try.prog H (n + 4) 22 v) : ∃ ss, SlSS H v ss ∧ ss.length ≤ 20000000000000 ∧ ∀ p ∈ ss, p.length ≤ 20000000000000 := by
  unfold ShpV at h
  simp only [Try.underlying22] at h
  unfold Shp at h
  simp only [Try.underlying22] at h
  have hc : Try.prog.cellsOf 63 = 1 := by kernel_rfl
  rcases h with h | ⟨b, len, cap, h, hb, hl, hm, h5⟩
  · cases h
    exact ⟨[], SlSS.nil _, by simp, by simp⟩
  · cases h
    have e8 : Try.prog.bytesOf 63 = 24 := by kernel_rfl
    have er : reachBytes = 140737488351232 := rfl
    rw [e8, er] at hm
    rcases h5 with h5 | ⟨cells, h1, h2, h3⟩
    · have : len = 0 := by omega
      subst this
      exact ⟨[], ⟨[], ⟨by simp, some ⟨b, 0, some 0⟩, cap, rfl, by simp, (by intro h; cases h), (by intro ad h; cases h; exact ⟨.inl rfl, hb⟩), (by intro h; exact absurd rfl h)⟩, by intro i p h; simp at h⟩, by simp, by simp⟩
    · rw [hc, Nat.mul_one] at h2
      obtain ⟨ss, g1, g2⟩ := list_sys (H := H) (B := 20000000000000) cells (fun i hi => by
        have h4 := h3 i (by omega)
        rw [hc, Nat.mul_one] at h4
        obtain ⟨s, p, k1, k2, k3⟩ := shp_terms h4
        have h6 := congrArg (fun l => l[0]?) k1
        simp only [List.getElem?_take, List.getElem?_drop] at h6
        exact ⟨s, p, by simpa using h6, k2, k3⟩)
      have htl : (ss.take len).length = len := by simp; omega
      refine ⟨ss.take len, ⟨cells.take len, ?_, fun i p hp => ?_⟩, by omega, fun p hp => ?_⟩
      · rw [htl]
        refine ⟨by simp; omega, some ⟨b, 0, some 0⟩, cap, rfl, by omega, (by intro h; cases h), (by intro ad h; cases h; exact ⟨.inl rfl, hb⟩), fun _ => ⟨b, 0, some 0, [], cells.drop len, rfl, ?_, rfl⟩⟩
        rw [h1, List.nil_append, List.take_append_drop]
      · have hi := (List.getElem?_eq_some_iff.1 hp).1
        rw [htl] at hi
        rw [List.getElem?_take, if_pos hi] at hp
        obtain ⟨s, q1, q2, q3⟩ := g2 i p hp
        exact ⟨s, by rw [List.getElem?_take, if_pos hi]; exact q1, q2⟩
      · obtain ⟨i, hi⟩ := List.mem_iff_getElem?.1 (List.mem_of_mem_take hp)
        obtain ⟨s, q1, q2, q3⟩ := g2 i p hi
        exact q3
end Go.Proofs.Ytaimceodhhgnnaa
