/- Parts of the proof of a statement of this seat: contracts of functions that the law calls, or the law's own row; no condition. -/
import Derived.Test.YtaimceodhhgnnaaAbArg
import Derived.Test.YtaimceodhhgnnaaRows
import Derived.WalkKit
import Derived.ProofKit
import Derived.OpenShut
import Derived.ShutString
import Derived.ChangeOld
import Derived.Below
import Derived.SizedLaws
import Derived.Test.YtaimceodhhgnnaaM6
/- FnExactMirandaDegree, the law's contract: for all arguments the law answers true; no condition. -/
namespace Go.Proofs.Ytaimceodhhgnnaa
open Go.Ab Ints
set_option linter.unusedSimpArgs false
set_option linter.unusedVariables false
theorem lawMirandaDegree_ok (lim : Nat) (s v : Value) (ss : List (List Tm)) (k : Int) (L U : List Int) (H : AHeap) (hl : lim ≤ H.next) (hs : SlSS H s ss) (hv : BoxV H v k L U) (hn : ss.length ≤ 20000000000000) (hn2 : ∀ p ∈ ss, p.length ≤ 20000000000000) (hL : L.length ≤ 20000000000000) (hU : U.length ≤ 20000000000000) :
    ACalls Try.prog lim n_laws_FnExactMirandaDegree [s, v] H fun v H' => v = .bool true := by
  obtain ⟨ls, us, rfl, hls, hus⟩ := hv
  refine is_laws_FnExactMirandaDegree.go rfl ?_
  unfold c_laws_FnExactMirandaDegree
  refine s_reg ?_
  simp only [o_pure, o_eff, o_nil, POp.ev, Opd.ev, EOp.ev, env0, gu, gv, setD, List.set, Option.map_some, Option.some.injEq, exists_eq_left', boxH, cellsV]
  have hx : Ext H (H.alloc [.int .i64 k, ls, us]) := Ext.alloc _ _
  have hls1 := SlI.ext hls hx
  have hus1 := SlI.ext hus hx
  have hs1 := hs.ext hx
  have hbp : (H.alloc [.int .i64 k, ls, us]).blk H.next = some [.int .i64 k, ls, us] := alloc_new _ _
  have hbl : H.next < (H.alloc [.int .i64 k, ls, us]).next := Nat.lt_succ_self _
  generalize H.alloc [.int .i64 k, ls, us] = H1 at hx hls1 hus1 hs1 hbp hbl ⊢
  have hn1 := hx.next
  generalize H.next = q at *
  refine s_reg ?_
  simp only [o_pure, o_nil, POp.ev, Opd.ev, setD, List.set, Option.some.injEq, exists_eq_left']
  refine s_reg ?_
  simp only [o_pure, o_callF, POp.ev, Opd.ev, gv, setD, List.map, Option.some.injEq, exists_eq_left']
  refine (szTermSSb_ok lim _ _ 1000000 _ hs1 (by omega) (by omega) hn hn2).mono ?_
  rintro _ HH ⟨⟨z, rfl, hz⟩, hh⟩
  subst HH
  simp only [o_cont, o_pure, o_nil, POp.ev, Opd.ev, gv, setD, List.set, Option.some.injEq, exists_eq_left']
  refine s_test ?_
  simp only [o_pure, o_nil, POp.ev, Opd.ev, gv, setD, Option.some.injEq, exists_eq_left', binV, ne_eq, not_true_eq_false, if_false]
  refine Test.split (fun h => ?_) (fun h => ?_)
  · refine s_reg ?_
    simp only [o_pure, o_nil, POp.ev, Opd.ev, setD, List.set, Option.some.injEq, exists_eq_left']
    refine s_ret1 ?_
    simp +decide only [p_seq_ret, p_fin_ret, resV, resOne, gv, Option.some.injEq, exists_eq_left']
  have hz0 : ¬ z < 0 := by simpa using h
  have hsz := hz hz0
  clear hz h hn hn2
  have hn : ss.length ≤ 1000000 := by omega
  have hn2 : ∀ p ∈ ss, p.length ≤ 1000000 := by
    intro p hp
    obtain ⟨j, hj, rfl⟩ := List.mem_iff_getElem.1 hp
    have := len_le_tot hj
    omega
  refine s_skip1 ?_
  simp +decide only [p_seq_normal]
  refine s_reg ?_
  simp only [o_pure, o_callF, POp.ev, Opd.ev, gv, setD, List.map, Option.some.injEq, exists_eq_left', load3 hbp]
  refine (szBox_ok lim _ k L U z H1 (by omega) ⟨_, _, rfl, hls1, hus1⟩ hL hU (by omega) (by omega)).mono ?_
  rintro _ H2 ⟨⟨z2, rfl, hz2⟩, hx2⟩
  simp only [o_cont, o_pure, o_nil, POp.ev, Opd.ev, gv, setD, List.set, Option.some.injEq, exists_eq_left']
  refine s_test ?_
  simp only [o_pure, o_nil, POp.ev, Opd.ev, gv, setD, Option.some.injEq, exists_eq_left', binV, ne_eq, not_true_eq_false, if_false]
  refine Test.split (fun h => ?_) (fun h => ?_)
  · refine s_reg ?_
    simp only [o_pure, o_nil, POp.ev, Opd.ev, setD, List.set, Option.some.injEq, exists_eq_left']
    refine s_ret1 ?_
    simp +decide only [p_seq_ret, p_fin_ret, resV, resOne, gv, Option.some.injEq, exists_eq_left']
  have hsz2 := hz2 (by simpa using h)
  clear hz2 h hL hU
  have hL : L.length ≤ 1000000 := by omega
  have hU : U.length ≤ 1000000 := by omega
  refine s_skip1 ?_
  simp +decide only [p_seq_normal]
  have keep : ∀ G, Ext H1 G → SlSS G s ss ∧ SlI G ls L ∧ SlI G us U ∧ G.blk q = some [.int .i64 k, ls, us] ∧ lim ≤ G.next ∧ q < G.next := fun G hg => by
    have := hg.next
    exact ⟨hs1.ext hg, SlI.ext hls1 hg, SlI.ext hus1 hg, by rw [hg.blk _ hbl]; exact hbp, by omega, by omega⟩
  generalize hR : mdR ss k L U = R
  have hne : ∀ b : Bool, (!(b == b)) = false := by decide
  -- the reference on copies
  obtain ⟨ks, kl, ku, kb, kn, kq⟩ := keep _ hx2
  refine s_reg ?_
  simp only [o_pure, o_callN, POp.ev, Opd.ev, gv, setD, List.map, Option.some.injEq, exists_eq_left', load3 kb]
  refine (toTermSS_ok _ _ _ false _ (Nat.le_refl _) ks hn hn2).use ?_
  rintro a1 HA ⟨hA, hxA⟩ _
  obtain ⟨ks, kl, ku, kb, kn, kq⟩ := keep _ ((hx2).trans hxA)
  simp only [o_cont, o_callF, Opd.ev, gv, setD, List.map]
  refine (toBox_ok lim _ k L U false HA kn ⟨_, _, rfl, kl, ku⟩ hL hU).mono ?_
  rintro _ HB ⟨bs, bt, bb, bc, rfl, _, _, _, hb1, hb2, hxB⟩
  simp only [o_cont, o_callF, Opd.ev, gv, setD, List.map]
  obtain ⟨_, _, _, _, kn, kq⟩ := keep _ (((hx2).trans hxA).trans hxB)
  refine (sDegree_ok lim _ _ ss k L U HB kn (hA.ext hxB).slss ⟨_, _, rfl, hb1.sl, hb2.sl⟩ hn hn2 hL hU).mono ?_
  rintro _ G1 ⟨rfl, hxG1'⟩
  rw [hR]
  have hxG1 := (((hx2).trans hxA).trans hxB).trans hxG1'
  simp only [o_cont, o_pure, o_nil, POp.ev, Opd.ev, gv, setD, List.set, Option.some.injEq, exists_eq_left', extV, List.getElem?_toArray, List.getElem?_cons_zero, List.getElem?_cons_succ]
  -- the program on its own copies
  obtain ⟨ks, kl, ku, kb, kn, kq⟩ := keep _ hxG1
  refine s_reg ?_
  simp only [o_pure, o_callF, POp.ev, Opd.ev, gv, setD, List.map, Option.some.injEq, exists_eq_left']
  refine (toTermSS_ok lim _ _ false _ kn ks hn hn2).mono ?_
  rintro x G2 ⟨hX, hxG2'⟩
  rcases hX with ⟨h0, _⟩ | ⟨xb, xvs, xfs, xbs, hX⟩
  · cases h0
  simp only [o_cont, o_pure, o_nil, POp.ev, Opd.ev, gv, setD, List.set, Option.some.injEq, exists_eq_left']
  have hxG2 := hxG1.trans hxG2'
  clear hxG2'
  obtain ⟨ks, kl, ku, kb, kn, kq⟩ := keep _ hxG2
  refine s_reg ?_
  simp only [o_pure, o_callF, POp.ev, Opd.ev, gv, setD, List.map, Option.some.injEq, exists_eq_left', load3 kb]
  refine (toBox_ok lim _ k L U false _ kn ⟨_, _, rfl, kl, ku⟩ hL hU).mono ?_
  rintro _ G3 ⟨bs, bt, bb, bc, rfl, _, _, _, hb1, hb2, hxG3'⟩
  rcases hb1 with ⟨h0, _⟩ | hb1
  · cases h0
  rcases hb2 with ⟨h0, _⟩ | hb2
  · cases h0
  replace hX := hX.ext hxG3'
  have hxG3 := hxG2.trans hxG3'
  clear hxG3'
  obtain ⟨ks, kl, ku, kb, kn, kq⟩ := keep _ hxG3
  simp only [o_cont, o_eff, o_nil, Opd.ev, EOp.ev, gv, setD, List.set, Option.some.injEq, exists_eq_left', store3_new (lim := lim) (H := G3) kn]
  have hxa := Ext.alloc G3 [.int .i64 k, bs, bt]
  have hp : (G3.alloc [.int .i64 k, bs, bt]).blk G3.next = some [.int .i64 k, bs, bt] := alloc_new _ _
  have hpl : G3.next < (G3.alloc [.int .i64 k, bs, bt]).next := Nat.lt_succ_self _
  generalize G3.alloc [.int .i64 k, bs, bt] = G4 at hxa hp hpl ⊢
  generalize G3.next = pp at hp hpl ⊢
  replace hX := hX.ext hxa
  replace hb1 := hb1.ext hxa
  replace hb2 := hb2.ext hxa
  have hxG4 := hxG3.trans hxa
  clear hxa
  have step : ∀ G, Ext G4 G → LaidX G G1.next G2.next xb xvs xfs xbs x ss false ∧ Laid G bb bs L ∧ Laid G bc bt U ∧ G.blk pp = some [.int .i64 k, bs, bt] := fun G hg => ⟨hX.ext hg, hb1.ext hg, hb2.ext hg, by rw [hg.blk _ hpl]; exact hp⟩
  obtain ⟨_, _, _, _, kn, _⟩ := keep _ hxG4
  refine s_reg ?_
  simp only [o_pure, o_callF, POp.ev, Opd.ev, gv, setD, List.map, Option.some.injEq, exists_eq_left', load3 hp]
  refine (iDegree_ok lim _ _ ss k L U G4 kn hX.slss ⟨_, _, rfl, hb1.vec.sl, hb2.vec.sl⟩ hn hn2 hL hU).mono ?_
  rintro _ J1 ⟨rfl, hj1⟩
  rw [hR]
  have hxJ1 := hxG4.trans hj1
  simp only [o_cont, o_pure, o_nil, POp.ev, Opd.ev, gv, setD, List.set, Option.some.injEq, exists_eq_left', extV, List.getElem?_toArray, List.getElem?_cons_zero, List.getElem?_cons_succ]
  -- both answers are the same
  refine s_test_I false (Ext J1) ?_ (fun J2 hj2 hg0 => by cases hg0) (fun J2 hj2 _ => ?_)
  · have hne1 : (R.1 != R.1) = false := by simp
    simp only [o_pure, o_guard, gk_ff, o_nil, POp.ev, Opd.ev, gv, setD, Option.some.injEq, exists_eq_left', pickV, binV, boolEq, ne_eq, not_true_eq_false, if_false, if_true, beq_self_eq_true, Bool.not_true, hne1]
    exact ⟨trivial, trivial, Ext.refl _⟩
  refine s_skip1 ?_
  simp +decide only [p_seq_normal]
  have hxJ2 := hxJ1.trans hj2
  have hj02 := hj1.trans hj2
  -- the system is as it was
  refine s_test_I false (Ext J2) ?_ (fun J3 hj3 hg0 => by cases hg0) (fun J3 hj3 _ => ?_)
  · obtain ⟨ks, kl, ku, kb, kn, kq⟩ := keep _ hxJ2
    simp only [o_pure, o_callF, POp.ev, Opd.ev, gv, setD, List.map, Option.some.injEq, exists_eq_left']
    refine (toTermSS_ok lim _ _ false _ kn ks hn hn2).mono ?_
    rintro y J ⟨hY, hyx⟩
    rcases hY with ⟨h0, _⟩ | ⟨yb, yvs, yfs, ybs, hY⟩
    · cases h0
    simp only [o_cont, o_callF, Opd.ev, gv, setD, List.map]
    refine (intactTermSS_ok lim _ _ _ _ _ _ _ _ _ _ _ _ _ _ _ _ (step _ (hj02.trans hyx)).1 hY hn hn2).mono ?_
    rintro _ J' ⟨rfl, hyx'⟩
    simp only [o_cont, o_pure, o_nil, POp.ev, Opd.ev, gv, setD, Option.some.injEq, exists_eq_left', unV, Bool.not_true]
    exact ⟨trivial, trivial, hyx.trans hyx'⟩
  refine s_skip1 ?_
  simp +decide only [p_seq_normal]
  have hxJ3 := hxJ2.trans hj3
  have hj03 := hj02.trans hj3
  -- the box is as it was
  refine s_test_I false (Ext J3) ?_ (fun J4 hj4 hg0 => by cases hg0) (fun J4 hj4 _ => ?_)
  · obtain ⟨ks, kl, ku, kb, kn, kq⟩ := keep _ hxJ3
    obtain ⟨_, _, _, t4⟩ := step _ hj03
    simp only [o_pure, o_callN, POp.ev, Opd.ev, gv, setD, List.map, Option.some.injEq, exists_eq_left', load3 t4, load3 kb]
    refine (toBox_ok _ _ k L U false J3 (Nat.le_refl _) ⟨_, _, rfl, kl, ku⟩ hL hU).use ?_
    rintro _ J ⟨es, et, eb, ec, rfl, _, _, _, he1, he2, hyx⟩ _
    rcases he1 with ⟨h0, _⟩ | he1
    · cases h0
    rcases he2 with ⟨h0, _⟩ | he2
    · cases h0
    obtain ⟨_, _, _, _, kn, _⟩ := keep _ (hxJ3.trans hyx)
    obtain ⟨_, t2, t3, _⟩ := step _ (hj03.trans hyx)
    simp only [o_cont, o_callF, Opd.ev, gv, setD, List.map]
    refine (intactBox_ok lim k L U bb bc eb ec bs bt es et J kn t2 t3 he1 he2 hL hU).mono ?_
    rintro _ J' ⟨rfl, hyx'⟩
    simp only [o_cont, o_pure, o_nil, POp.ev, Opd.ev, gv, setD, Option.some.injEq, exists_eq_left', unV, Bool.not_true]
    exact ⟨trivial, trivial, hyx.trans hyx'⟩
  refine s_skip1 ?_
  simp +decide only [p_seq_normal]
  have hxJ4 := hxJ3.trans hj4
  have hj04 := hj03.trans hj4
  -- a second answer, on copies without room
  obtain ⟨ks, kl, ku, kb, kn, kq⟩ := keep _ hxJ4
  refine s_reg ?_
  simp only [o_pure, o_callN, POp.ev, Opd.ev, gv, setD, List.map, Option.some.injEq, exists_eq_left', load3 kb]
  refine (toTermSS_ok _ _ _ true _ (Nat.le_refl _) ks hn hn2).use ?_
  rintro a1 HA ⟨hA, hxA⟩ _
  obtain ⟨ks, kl, ku, kb, kn, kq⟩ := keep _ ((hxJ4).trans hxA)
  simp only [o_cont, o_callF, Opd.ev, gv, setD, List.map]
  refine (toBox_ok lim _ k L U true HA kn ⟨_, _, rfl, kl, ku⟩ hL hU).mono ?_
  rintro _ HB ⟨bs, bt, bb, bc, rfl, _, _, _, hb1, hb2, hxB⟩
  simp only [o_cont, o_callF, Opd.ev, gv, setD, List.map]
  obtain ⟨_, _, _, _, kn, kq⟩ := keep _ (((hxJ4).trans hxA).trans hxB)
  refine (iDegree_ok lim _ _ ss k L U HB kn (hA.ext hxB).slss ⟨_, _, rfl, hb1.sl, hb2.sl⟩ hn hn2 hL hU).mono ?_
  rintro _ K1 ⟨rfl, hxK1'⟩
  rw [hR]
  have hxK1 := (((hxJ4).trans hxA).trans hxB).trans hxK1'
  simp only [o_cont, o_pure, o_nil, POp.ev, Opd.ev, gv, setD, List.set, Option.some.injEq, exists_eq_left', extV, List.getElem?_toArray, List.getElem?_cons_zero, List.getElem?_cons_succ]
  refine s_test_I false (Ext K1) ?_ (fun K2 hk2 hg0 => by cases hg0) (fun K2 hk2 _ => ?_)
  · have hne1 : (R.1 != R.1) = false := by simp
    simp only [o_pure, o_guard, gk_ff, o_nil, POp.ev, Opd.ev, gv, setD, Option.some.injEq, exists_eq_left', pickV, binV, boolEq, ne_eq, not_true_eq_false, if_false, if_true, beq_self_eq_true, Bool.not_true, hne1]
    exact ⟨trivial, trivial, Ext.refl _⟩
  refine s_skip1 ?_
  simp +decide only [p_seq_normal]
  refine s_reg ?_
  simp only [o_pure, o_nil, POp.ev, Opd.ev, setD, List.set, Option.some.injEq, exists_eq_left']
  refine s_ret1 ?_
  simp +decide only [p_fin_ret, resV, resOne, gv, Option.some.injEq, exists_eq_left']
end Go.Proofs.Ytaimceodhhgnnaa

/- The rows' arguments: what a law of this seat is handed, told of the abstract heap; no condition. -/
namespace Go.Proofs.Ytaimceodhhgnnaa
open Go.Ab
set_option linter.unusedSimpArgs false
set_option linter.unusedVariables false
set_option maxRecDepth 100000
theorem own : ownKnob Try.prog.godebug = none := by kernel_rfl
theorem laidOut : laidOutB Try.prog = true := by kernel_rfl
theorem shp2 {P : Program} {H : AHeap} {n a b} {avs : List Value} (h : ShpAll P H n [a, b] avs) : ∃ v u, avs = [v, u] ∧ ShpV P H n a v ∧ ShpV P H n b u := by
  match avs, h with
  | [v, u], h => exact ⟨v, u, rfl, h.1, h.2.1⟩
theorem shp_cell {H : AHeap} {n : Nat} {cs : List Value} (h : Shp Try.prog H (n + 1) 3 cs) : ∃ x, cs = [vi x] := by
  unfold Shp at h
  simp only [Try.underlying3] at h
  obtain ⟨x, h, h2⟩ := h
  exact ⟨x, h⟩
/-- a term -/
theorem shp_term {H : AHeap} {n : Nat} {cs : List Value} (h : Shp Try.prog H (n + 2) 114 cs) : ∃ t, cs = tc t := by
  unfold Shp at h
  simp only [Try.underlying114] at h
  obtain ⟨hc, hf⟩ := h
  have e4 : Try.prog.cellsOf 114 = 4 := by kernel_rfl
  have e1 : Try.prog.cellsOf 3 = 1 := by kernel_rfl
  rw [e4] at hc
  match cs, hc with
  | [a, b, c, d], _ =>
    have f0 := hf _ (List.mem_cons_self ..)
    have f1 := hf _ (List.mem_cons_of_mem _ (List.mem_cons_self ..))
    have f2 := hf _ (List.mem_cons_of_mem _ (List.mem_cons_of_mem _ (List.mem_cons_self ..)))
    have f3 := hf _ (List.mem_cons_of_mem _ (List.mem_cons_of_mem _ (List.mem_cons_of_mem _ (List.mem_cons_self ..))))
    simp only [e1, List.drop_zero, List.drop_succ_cons, List.take_succ_cons, List.take_zero] at f0 f1 f2 f3
    obtain ⟨x0, g0⟩ := shp_cell f0
    obtain ⟨x1, g1⟩ := shp_cell f1
    obtain ⟨x2, g2⟩ := shp_cell f2
    obtain ⟨x3, g3⟩ := shp_cell f3
    cases g0
    cases g1
    cases g2
    cases g3
    exact ⟨⟨x0, x1, x2, x3⟩, rfl⟩
theorem cells_terms : ∀ (m : Nat) (cells : List Value), cells.length = m * 4 → (∀ i, i < m → ∃ t, (cells.drop (i * 4)).take 4 = tc t) → ∃ zs : List Tm, zs.length = m ∧ cells = tcs zs
  | 0, cells, hl, _ => ⟨[], rfl, List.length_eq_zero_iff.1 (by omega)⟩
  | m + 1, cells, hl, h => by
    obtain ⟨t, ht⟩ := h 0 (by omega)
    obtain ⟨zs, h1, h2⟩ := cells_terms m (cells.drop 4) (by simp; omega) (fun i hi => by
      obtain ⟨u, hu⟩ := h (i + 1) (by omega)
      refine ⟨u, ?_⟩
      rw [List.drop_drop, ← hu]
      congr 2
      omega)
    refine ⟨t :: zs, by simp [h1], ?_⟩
    rw [tcs_cons, ← h2, ← ht]
    simp
theorem shp_terms {H : AHeap} {n : Nat} {cs : List Value} (h : Shp Try.prog H (n + 3) 63 cs) : ∃ v l, cs = [v] ∧ SlT H v l ∧ l.length ≤ 20000000000000 := by
  unfold Shp at h
  simp only [Try.underlying63] at h
  have hc : Try.prog.cellsOf 114 = 4 := by kernel_rfl
  rcases h with rfl | ⟨b, len, cap, rfl, hb, hl, hm, h5⟩
  · exact ⟨_, [], rfl, Sl.nil _ _, by simp⟩
  · have e8 : Try.prog.bytesOf 114 = 32 := by kernel_rfl
    have er : reachBytes = 140737488351232 := rfl
    rw [e8, er] at hm
    rcases h5 with h5 | ⟨cells, h1, h2, h3⟩
    · have : len = 0 := by omega
      subst this
      exact ⟨_, [], rfl, ⟨by simp [tcs], some ⟨b, 0, some 0⟩, cap, rfl, by simp, (by intro h; cases h), (by intro ad h; cases h; exact ⟨.inl rfl, hb⟩), (by intro h; exact absurd rfl h)⟩, by simp⟩
    · rw [hc] at h2 h3
      obtain ⟨zs, hz, rfl⟩ := cells_terms cap cells h2 (fun i hi => shp_term (h3 i hi))
      have htl : (zs.take len).length = len := by simp; omega
      refine ⟨_, zs.take len, rfl, ?_, by omega⟩
      unfold SlT
      rw [htl]
      refine ⟨by rw [tcs_length, htl], some ⟨b, 0, some 0⟩, cap, rfl, by omega, (by intro h; cases h), (by intro ad h; cases h; exact ⟨.inl rfl, hb⟩), fun _ => ⟨b, 0, some 0, [], tcs (zs.drop len), rfl, ?_, rfl⟩⟩
      rw [h1, List.nil_append, ← tcs_append, List.take_append_drop]
theorem list_sys {H : AHeap} {B : Nat} : ∀ (cells : List Value), (∀ i, i < cells.length → ∃ s p, cells[i]? = some s ∧ SlT H s p ∧ p.length ≤ B) →
    ∃ ss : List (List Tm), ss.length = cells.length ∧ ∀ (i : Nat) (p : List Tm), ss[i]? = some p → ∃ s, cells[i]? = some s ∧ SlT H s p ∧ p.length ≤ B
  | [], _ => ⟨[], rfl, by intro i p h; simp at h⟩
  | c :: cells, h => by
    obtain ⟨s, p, h1, h2, h3⟩ := h 0 (by simp)
    obtain ⟨ss, g1, g2⟩ := list_sys cells (fun i hi => by simpa using h (i + 1) (by simp; omega))
    refine ⟨p :: ss, by simp [g1], fun i q hq => ?_⟩
    cases i with
    | zero => simp at hq; subst hq; exact ⟨s, h1, h2, h3⟩
    | succ i => simpa using g2 i q (by simpa using hq)
/-- a system -/
theorem shp_sys {H : AHeap} {n : Nat} {v : Value} (h : ShpV Try.prog H (n + 4) 22 v) : ∃ ss, SlSS H v ss ∧ ss.length ≤ 20000000000000 ∧ ∀ p ∈ ss, p.length ≤ 20000000000000 := by
  unfold ShpV at h
  simp only [Try.underlying22] at h
  unfold Shp at h
  simp only [Try.underlying22] at h
  have hc : Try.prog.cellsOf 63 = 1 := by kernel_rfl
  rcases h with h | ⟨b, len, cap, h, hb, hl, hm, h5⟩
  · cases h
    exact ⟨[], SlSS.nil _, by simp, by simp⟩
  · cases h
    have e8 : Try.prog.bytesOf 63 = 24 := by kernel_rfl
    have er : reachBytes = 140737488351232 := rfl
    rw [e8, er] at hm
    rcases h5 with h5 | ⟨cells, h1, h2, h3⟩
    · have : len = 0 := by omega
      subst this
      exact ⟨[], ⟨[], ⟨by simp, some ⟨b, 0, some 0⟩, cap, rfl, by simp, (by intro h; cases h), (by intro ad h; cases h; exact ⟨.inl rfl, hb⟩), (by intro h; exact absurd rfl h)⟩, by intro i p h; simp at h⟩, by simp, by simp⟩
    · rw [hc, Nat.mul_one] at h2
      obtain ⟨ss, g1, g2⟩ := list_sys (H := H) (B := 20000000000000) cells (fun i hi => by
        have h4 := h3 i (by omega)
        rw [hc, Nat.mul_one] at h4
        obtain ⟨s, p, k1, k2, k3⟩ := shp_terms h4
        have h6 := congrArg (fun l => l[0]?) k1
        simp only [List.getElem?_take, List.getElem?_drop] at h6
        exact ⟨s, p, by simpa using h6, k2, k3⟩)
      have htl : (ss.take len).length = len := by simp; omega
      refine ⟨ss.take len, ⟨cells.take len, ?_, fun i p hp => ?_⟩, by omega, fun p hp => ?_⟩
      · rw [htl]
        refine ⟨by simp; omega, some ⟨b, 0, some 0⟩, cap, rfl, by omega, (by intro h; cases h), (by intro ad h; cases h; exact ⟨.inl rfl, hb⟩), fun _ => ⟨b, 0, some 0, [], cells.drop len, rfl, ?_, rfl⟩⟩
        rw [h1, List.nil_append, List.take_append_drop]
      · have hi := (List.getElem?_eq_some_iff.1 hp).1
        rw [htl] at hi
        rw [List.getElem?_take, if_pos hi] at hp
        obtain ⟨s, q1, q2, q3⟩ := g2 i p hp
        exact ⟨s, by rw [List.getElem?_take, if_pos hi]; exact q1, q2⟩
      · obtain ⟨i, hi⟩ := List.mem_iff_getElem?.1 (List.mem_of_mem_take hp)
        obtain ⟨s, q1, q2, q3⟩ := g2 i p hi
        exact q3
end Go.Proofs.Ytaimceodhhgnnaa

/- The rows' arguments, lists of numbers: told of the abstract heap; no condition. -/
namespace Go.Proofs.Ytaimceodhhgnnaa
open Go.Ab Ints
set_option linter.unusedSimpArgs false
set_option linter.unusedVariables false
set_option maxRecDepth 100000
/-- a slice argument of ints -/
theorem shp_ints {H : AHeap} {n : Nat} {v : Value} (h : Shp Try.prog H (n + 2) 38 [v]) : ∃ l, SlI H v l := by
  unfold Shp at h
  simp only [Try.underlying38] at h
  have hc : Try.prog.cellsOf 3 = 1 := by kernel_rfl
  rcases h with h | ⟨b, len, cap, h, hb, hl, hm, h5⟩
  · simp only [List.cons.injEq, and_true] at h
    subst h
    exact ⟨[], Sl.nil _ _⟩
  · simp only [List.cons.injEq, and_true] at h
    subst h
    rcases h5 with h5 | ⟨cells, h1, h2, h3⟩
    · have : len = 0 := by omega
      subst this
      refine ⟨[], by simp, some ⟨b, 0, some 0⟩, cap, rfl, by simp, (by intro h; cases h), (by intro ad h; cases h; exact ⟨.inl rfl, hb⟩), (by intro h; exact absurd rfl h)⟩
    · rw [hc, Nat.mul_one] at h2
      have hcell : ∀ i, i < cap → ∃ x, cells[i]? = some (vi x) := by
        intro i hi
        have h4 := h3 i hi
        rw [hc, Nat.mul_one] at h4
        unfold Shp at h4
        simp only [Try.underlying3] at h4
        obtain ⟨x, h4, _⟩ := h4
        have h6 := congrArg (fun l => l[0]?) h4
        simp only [List.getElem?_take, List.getElem?_drop] at h6
        exact ⟨x, by simpa using h6⟩
      have hall : ∃ zs : List Int, cells = zs.map vi := by
        clear h3 h1
        have hx : ∀ (cs : List Value), (∀ i, i < cs.length → ∃ x, cs[i]? = some (vi x)) → ∃ zs : List Int, cs = zs.map vi := by
          intro cs
          induction cs with
          | nil => intro _; exact ⟨[], rfl⟩
          | cons c cs ih =>
            intro h
            obtain ⟨x, hx⟩ := h 0 (by simp)
            obtain ⟨zs, hz⟩ := ih (fun i hi => by simpa using h (i + 1) (by simp; omega))
            simp at hx
            exact ⟨x :: zs, by simp [hx, hz]⟩
        exact hx cells (by rw [h2]; exact hcell)
      obtain ⟨zs, rfl⟩ := hall
      have hz : zs.length = cap := by simpa using h2
      have htl : (zs.take len).length = len := by simp; omega
      refine ⟨zs.take len, by simp, some ⟨b, 0, some 0⟩, cap, by rw [htl], by omega, (by intro h; cases h), (by intro ad h; cases h; exact ⟨.inl rfl, hb⟩), fun _ => ⟨b, 0, some 0, [], (zs.drop len).map vi, rfl, ?_, rfl⟩⟩
      rw [h1, List.nil_append, ← List.map_append, List.take_append_drop]
theorem shp_len {H : AHeap} {n : Nat} {cs : List Value} (h : Shp Try.prog H (n + 2) 38 cs) : ∃ v l, cs = [v] ∧ SlI H v l ∧ l.length ≤ 20000000000000 := by
  have h0 := h
  unfold Shp at h
  simp only [Try.underlying38] at h
  rcases h with rfl | ⟨b, len, cap, rfl, hb, hl, hm, h5⟩
  · exact ⟨_, [], rfl, Sl.nil _ _, by simp⟩
  · obtain ⟨l, hl2⟩ := shp_ints h0
    refine ⟨_, l, rfl, hl2, ?_⟩
    obtain ⟨_, a, c, h1, _⟩ := hl2
    cases h1
    have e8 : Try.prog.bytesOf 3 = 8 := by kernel_rfl
    have er : reachBytes = 140737488351232 := rfl
    rw [e8, er] at hm
    omega
end Go.Proofs.Ytaimceodhhgnnaa

/- The rows' arguments: a box, told of the abstract heap; no condition. -/
namespace Go.Proofs.Ytaimceodhhgnnaa
open Go.Ab Ints
set_option linter.unusedSimpArgs false
set_option linter.unusedVariables false
set_option maxRecDepth 100000
/-- a box argument -/
theorem shp_box {H : AHeap} {n : Nat} {v : Value} (h : ShpV Try.prog H (n + 3) 45 v) : ∃ k low high, BoxV H v k low high ∧ low.length ≤ 20000000000000 ∧ high.length ≤ 20000000000000 := by
  unfold ShpV at h
  simp only [Try.underlying45] at h
  obtain ⟨cs, rfl, h⟩ := h
  unfold Shp at h
  simp only [Try.underlying45] at h
  obtain ⟨hc, hf⟩ := h
  have e3 : Try.prog.cellsOf 45 = 3 := by kernel_rfl
  have e1 : Try.prog.cellsOf 3 = 1 := by kernel_rfl
  have e2 : Try.prog.cellsOf 38 = 1 := by kernel_rfl
  rw [e3] at hc
  match cs, hc with
  | [a, b, c], _ =>
    have f0 := hf _ (List.mem_cons_self ..)
    have f1 := hf _ (List.mem_cons_of_mem _ (List.mem_cons_self ..))
    have f2 := hf _ (List.mem_cons_of_mem _ (List.mem_cons_of_mem _ (List.mem_cons_self ..)))
    simp only [e1, e2, List.drop_zero, List.drop_succ_cons, List.take_succ_cons, List.take_zero] at f0 f1 f2
    unfold Shp at f0
    simp only [Try.underlying3] at f0
    obtain ⟨k, f0, _⟩ := f0
    obtain ⟨v1, l1, g1, g2, g3⟩ := shp_len f1
    obtain ⟨v2, l2, k1, k2, k3⟩ := shp_len f2
    cases f0
    cases g1
    cases k1
    exact ⟨k, l1, l2, ⟨_, _, rfl, g2, k2⟩, g3, k3⟩
end Go.Proofs.Ytaimceodhhgnnaa
