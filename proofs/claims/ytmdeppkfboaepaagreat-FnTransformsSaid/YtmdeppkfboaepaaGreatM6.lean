/- Parts of the proof of a statement of this seat: contracts of functions that the law calls, or the law's own row; no condition. -/
import Derived.Test.YtmdeppkfboaepaaGreatM5
/- Values at points of whole numbers, the reference's sum; no condition beyond stated ranges. -/
namespace Go.Proofs.YtmdeppkfboaepaaGreat
open Go.Ab Ints
set_option linter.unusedSimpArgs false
set_option linter.unusedVariables false
def prodTo (l : List Int) (t : Tm) : Nat → Int
 | 0 => 1
 | k + 1 => prodTo l t k * l.getD k 0 ^ (pw t k).toNat
theorem ev_take {φ : Tm → Int} {p : List Tm} {i : Nat} (h : i < p.length) : ev φ (p.take (i + 1)) = ev φ (p.take i) + p[i].c * φ p[i] := by
 rw [List.take_succ_eq_append_getElem h, ev_append]
 simp [ev]
set_option maxHeartbeats 1000000 in
theorem vaSum_ok (lim : Nat) (s pt : Value) (p : List Tm) (l : List Int) (H : AHeap) (hl : lim ≤ H.next) (hs : SlT H s p) (hp : SlP H pt l) (hn : p.length ≤ 1000000) (hln : l.length ≤ 3) (hok : ∀ t ∈ p, okTm t = true) :
   ACalls Tryz.prog lim n_spec_vaSum [s, pt] H fun v H' => (∃ r, v = .tuple #[.int .i64 r, .int .i64 0] ∧ inR r ∧ cg r (ev (fun t => prodTo l t l.length) p)) ∧ Ext H H' := by
 refine is_spec_vaSum.go rfl ?_
 unfold c_spec_vaSum
 refine s_reg ?_
 simp only [o_pure, o_nil, POp.ev, Opd.ev, env0, gu, setD, List.set, xsj, xel]
 refine s_reg ?_
 simp only [o_pure, o_nil, POp.ev, Opd.ev, setD, List.set, xsj, xel]
 refine s_assoc (s_reg ?_)
 simp only [o_pure, o_nil, POp.ev, Opd.ev, gv, setD, List.set, xsj, xel, hp.lenV]
 refine s_block ?_
 refine s_loop1 (fun k e' H' => ∃ (i : Nat) (x5 x6 x7 x8 x9 x10 x11 x12 x13 x17 x18 x19 x20 x21 x22 : Value), i + k = l.length ∧ Ext H H' ∧ e' = [s, pt, .int .i64 0, .int .i64 0, .int .i64 0, x5, x6, x7, x8, x9, x10, x11, x12, x13, pt, .int .i64 l.length, .int .i64 i, x17, x18, x19, x20, x21, x22]) l.length ⟨0, _, _, _, _, _, _, _, _, _, _, _, _, _, _, _, by omega, Ext.refl _, rfl⟩ ?_
 rintro k e' H' ⟨i, x5, x6, x7, x8, x9, x10, x11, x12, x13, x17, x18, x19, x20, x21, x22, hik, hx, rfl⟩
 have hnx := hx.next
 refine s_test ?_
 simp only [o_pure, o_nil, POp.ev, Opd.ev, gv, setD, xsj, xel, binV, ne_eq, xnt, if_false]
 refine Test.split (fun hlt => ?_) (fun hlt => ?_)
 · have hlt' : i < l.length := by simpa using hlt
   obtain ⟨b1, o1, h1, hat⟩ := (hp.ext hx).at hlt'
   generalize l[i] = n at hat
   refine s_skip1 ?_
   simp +decide only [pqn]
   refine s_block ?_
   refine s_reg ?_
   simp only [o_pure, o_eff, o_nil, POp.ev, Opd.ev, EOp.ev, gv, setD, List.set, xsj, xel, h1, hat.all, store2_new (lim := lim) (H := H') (by omega)]
   have hB := BoxP.mk' H' n
   generalize H'.alloc [vi n, vi 0] = H1 at hB ⊢
   generalize H'.next = q at hB hnx ⊢
   have hx1 := hx.trans hB.ext
   refine s_reg1 ?_
   simp only [o_pure, o_callF, POp.ev, Opd.ev, gv, setD, List.map, xsj, xel, load1V, fadV, Nat.zero_add, hB.c1]
   refine (l1Most_ok _ _ _ _).eq ?_
   simp only [o_cont, o_pure, o_nil, POp.ev, Opd.ev, gv, setD, List.set, xsj, xel]
   simp +decide only [pqn, pbn, reduceIte]
   refine s_reg1 ?_
   simp only [o_pure, o_nil, POp.ev, Opd.ev, gv, setD, List.set, xsj, xel, binV, ne_eq, xnt, if_false, add1 (i := i) (by omega)]
   simp +decide only [pqn]
   exact Round.mk (k - 1) (by omega) ⟨i + 1, _, _, _, _, _, _, _, _, _, _, _, _, _, _, _, by omega, hx1, rfl⟩
 refine s_exit1 ?_
 simp +decide only [pqn, pqe, pbe, reduceIte]
 refine s_reg ?_
 simp only [o_pure, o_nil, POp.ev, Opd.ev, setD, List.set, xsj, xel]
 have hsx := hs.ext hx
 refine s_assoc (s_reg ?_)
 simp only [o_pure, o_nil, POp.ev, Opd.ev, gv, setD, List.set, xsj, xel, hsx.lenV]
 refine s_block ?_
 clear hlt hik
 refine s_loop1 (fun k e' H'' => ∃ (j : Nat) (r : Int) (x5 x7 x8 x9 x10 x11 x12 x13 x20 x21 x22 : Value), j + k = p.length ∧ inR r ∧ cg r (ev (fun t => prodTo l t l.length) (p.take j)) ∧ Ext H H'' ∧ e' = [s, pt, .int .i64 0, .int .i64 0, .int .i64 0, x5, .int .i64 r, x7, x8, x9, x10, x11, x12, x13, pt, .int .i64 l.length, .int .i64 i, s, .int .i64 p.length, .int .i64 j, x20, x21, x22]) p.length ⟨0, 0, _, _, _, _, _, _, _, _, _, _, _, by omega, by unfold inR; omega, cg.of_eq (by simp [ev]), hx, rfl⟩ ?_
 clear hx hnx hsx x5 x7 x8 x9 x10 x11 x12 x13 x20 x21 x22
 rintro k e' H' ⟨j, r, x5, x7, x8, x9, x10, x11, x12, x13, x20, x21, x22, hjk, hr, hcg, hx, rfl⟩
 have hnx := hx.next
 refine s_test ?_
 simp only [o_pure, o_nil, POp.ev, Opd.ev, gv, setD, xsj, xel, binV, ne_eq, xnt, if_false]
 refine Test.split (fun hlt => ?_) (fun hlt => ?_)
 · have hlt' : j < p.length := by simpa using hlt
   obtain ⟨b1, o1, h1, hat⟩ := (hs.ext hx).at hlt'
   have htake := ev_take (φ := fun t => prodTo l t l.length) hlt'
   have hokt := hok _ (List.getElem_mem hlt')
   generalize p[j] = t at hat htake hokt
   have hokb := (okTm_iff t).1 hokt
   refine s_skip1 ?_
   simp +decide only [pqn]
   refine s_block ?_
   refine s_reg ?_
   simp only [o_pure, o_eff, o_nil, POp.ev, Opd.ev, EOp.ev, gv, setD, List.set, xsj, xel, h1, hat.all, store4_new (lim := lim) (H := H') (by omega)]
   have hB := BoxT.mk' H' t
   generalize H'.alloc (tc t) = H1 at hB ⊢
   generalize H'.next = q at hB hnx ⊢
   have hx1 := hx.trans hB.ext
   have hnx1 := hx1.next
   refine s_reg ?_
   simp only [o_pure, o_nil, POp.ev, Opd.ev, gv, setD, List.set, xsj, xel, load1V, fadV, Nat.zero_add, hB.c0]
   refine s_assoc (s_reg ?_)
   have hpx := hp.ext hx1
   simp only [o_pure, o_nil, POp.ev, Opd.ev, gv, setD, List.set, xsj, xel, hpx.lenV]
   refine s_block ?_
   refine s_loop1 (fun k2 e' H'' => ∃ (m : Nat) (w : Int) (x9 x10 x11 x12 : Value), m + k2 = l.length ∧ inR w ∧ cg w (t.c * prodTo l t m) ∧ Ext H1 H'' ∧ e' = [s, pt, .int .i64 0, .int .i64 0, .int .i64 0, x5, .int .i64 r, .pointer (some ⟨q, 0, none⟩), .int .i64 w, x9, x10, x11, x12, x13, pt, .int .i64 l.length, .int .i64 i, s, .int .i64 p.length, .int .i64 j, pt, .int .i64 l.length, .int .i64 m]) l.length ⟨0, t.c, _, _, _, _, by omega, by unfold inR; omega, cg.of_eq (by simp [prodTo]), Ext.refl _, rfl⟩ ?_
   clear x9 x10 x11 x12
   rintro k2 e' H2 ⟨m, w, x9, x10, x11, x12, hmk, hw, hcw, hx2, rfl⟩
   have hnx2 := hx2.next
   refine s_test ?_
   simp only [o_pure, o_nil, POp.ev, Opd.ev, gv, setD, xsj, xel, binV, ne_eq, xnt, if_false]
   refine Test.split (fun hlt2 => ?_) (fun hlt2 => ?_)
   · have hlt2' : m < l.length := by simpa using hlt2
     obtain ⟨b2, o2, h2, hat2⟩ := (hpx.ext hx2).at hlt2'
     have hgd : l.getD m 0 = l[m] := by rw [List.getD_eq_getElem?_getD, List.getElem?_eq_getElem hlt2']; rfl
     generalize l[m] = n at hat2 hgd
     refine s_skip1 ?_
     simp +decide only [pqn]
     refine s_block ?_
     refine s_reg ?_
     simp only [o_pure, o_eff, o_nil, POp.ev, Opd.ev, EOp.ev, gv, setD, List.set, xsj, xel, h2, hat2.all, store2_new (lim := lim) (H := H2) (by omega)]
     have hB2 := BoxP.mk' H2 n
     generalize H2.alloc [vi n, vi 0] = H3 at hB2 ⊢
     generalize H2.next = q2 at hB2 hnx2 ⊢
     have hx3 := hx2.trans hB2.ext
     have hnx3 := hx3.next
     refine s_reg ?_
     simp only [o_pure, o_callF, POp.ev, Opd.ev, gv, setD, List.map, xsj, xel, hB2.all]
     refine (dyAt0_ok lim n H3 (by omega)).mono ?_
     rintro _ H4 ⟨rfl, hx4⟩
     have hB4 := hB.mono (hx3.trans hx4)
     simp only [o_cont, o_pure, o_nil, POp.ev, Opd.ev, gv, setD, List.set, xsj, xel, extV, List.getElem?_toArray, xgz, xgs]
     refine s_reg ?_
     simp only [o_pure, o_callF, POp.ev, Opd.ev, gv, setD, List.map, xsj, xel, hB4.all]
     refine (poPower_ok _ _ _ _).mono ?_
     rintro _ H5 ⟨rfl, hx5⟩
     simp only [o_cont, o_pure, o_nil, POp.ev, Opd.ev, gv, setD, List.set, xsj, xel]
     have hpos := (pw_small hokt m)
     refine s_block1 ?_
     refine s_loop1 (fun k3 e' H'' => H'' = H5 ∧ ∃ (u : Int), inR u ∧ k3 ≤ (pw t m).toNat ∧ cg u (t.c * prodTo l t m * n ^ ((pw t m).toNat - k3)) ∧ e' = [s, pt, .int .i64 0, .int .i64 0, .int .i64 0, x5, .int .i64 r, .pointer (some ⟨q, 0, none⟩), .int .i64 u, .int .i64 m, .pointer (some ⟨q2, 0, none⟩), .int .i64 n, .int .i64 k3, x13, pt, .int .i64 l.length, .int .i64 i, s, .int .i64 p.length, .int .i64 j, pt, .int .i64 l.length, .int .i64 m]) (pw t m).toNat ⟨rfl, w, hw, Nat.le_refl _, by simpa using hcw, by rw [Int.toNat_of_nonneg hpos.1]⟩ ?_
     rintro k3 e' H6 ⟨rfl, u, hu, hk3, hcu, rfl⟩
     refine s_test ?_
     simp only [o_pure, o_nil, POp.ev, Opd.ev, gv, setD, xsj, xel, binV, ne_eq, xnt, if_false]
     refine Test.split (fun hlt3 => ?_) (fun hlt3 => ?_)
     · have hlt3' : 0 < k3 := by have := of_decide_eq_true hlt3; omega
       obtain ⟨k3, rfl⟩ : ∃ k, k3 = k + 1 := ⟨k3 - 1, by omega⟩
       refine s_skip1 ?_
       simp +decide only [pqn]
       refine s_block ?_
       refine s_reg1 ?_
       simp only [o_pure, o_nil, POp.ev, Opd.ev, gv, setD, List.set, xsj, xel, binV, ne_eq, xnt, if_false]
       simp +decide only [pqn, pbn]
       have w2 : IntKind.i64.wrap (((k3 + 1 : Nat) : Int) - 1) = (k3 : Int) := by rw [show ((k3 + 1 : Nat) : Int) - 1 = (k3 : Int) by omega]; exact wr_nat (by omega)
       refine s_reg1 ?_
       simp only [o_pure, o_nil, POp.ev, Opd.ev, gv, setD, List.set, xsj, xel, binV, ne_eq, xnt, if_false, w2]
       simp +decide only [pqn]
       refine Round.mk k3 (by omega) ⟨rfl, W (u * n), W_in _, by omega, ?_, rfl⟩
       refine (cg_W _).trans ((hcu.mul (cg.refl n)).trans (cg.of_eq ?_))
       rw [Int.mul_assoc, ← Int.pow_succ, show ((pw t m).toNat - (k3 + 1)).succ = (pw t m).toNat - k3 by omega]
     · have hk0 : k3 = 0 := by have := of_decide_eq_false hlt3; omega
       subst hk0
       refine s_exit1 ?_
       simp +decide only [pqn, pqe, pbn, pbe, reduceIte]
       refine s_reg1 ?_
       simp only [o_pure, o_nil, POp.ev, Opd.ev, gv, setD, List.set, xsj, xel, binV, ne_eq, xnt, if_false, add1 (i := m) (by omega)]
       simp +decide only [pqn]
       refine Round.mk (k2 - 1) (by omega) ⟨m + 1, u, _, _, _, _, by omega, hu, ?_, hx3.trans (hx4.trans hx5), rfl⟩
       refine hcu.trans (cg.of_eq ?_)
       rw [prodTo, hgd, Int.mul_assoc, Nat.sub_zero]
   have hm : m = l.length := by simp at hlt2; omega
   subst hm
   refine s_exit1 ?_
   simp +decide only [pqn, pqe, pbe, reduceIte]
   have hB2 := hB.mono hx2
   have wd1 : IntKind.i64.wrap (t.x + t.y) = t.x + t.y := wr_id (by omega) (by omega)
   have wd2 : IntKind.i64.wrap (t.x + t.y + t.z) = t.x + t.y + t.z := wr_id (by omega) (by omega)
   refine s_assoc (s_reg ?_)
   simp only [o_pure, o_nil, POp.ev, Opd.ev, gv, setD, List.set, xsj, xel, binV, load1V, fadV, ne_eq, xnt, if_false, Nat.zero_add, hB2.c1, hB2.c2, hB2.c3, wd1, wd2]
   refine s_block ?_
   refine s_loop1 (fun k3 e' H'' => H'' = H2 ∧ ∃ (d : Int), d + k3 = 4 ∧ 0 ≤ d ∧ e' = [s, pt, .int .i64 0, .int .i64 0, .int .i64 0, x5, .int .i64 r, .pointer (some ⟨q, 0, none⟩), .int .i64 w, x9, x10, x11, x12, .int .i64 d, pt, .int .i64 l.length, .int .i64 i, s, .int .i64 p.length, .int .i64 j, pt, .int .i64 l.length, .int .i64 l.length]) (4 - (t.x + t.y + t.z)).toNat ⟨rfl, t.x + t.y + t.z, by omega, by omega, rfl⟩ ?_
   rintro k3 e' H3 ⟨rfl, d, hd, hd0, rfl⟩
   refine s_test ?_
   simp only [o_pure, o_nil, POp.ev, Opd.ev, gv, setD, xsj, xel, binV, ne_eq, xnt, if_false]
   refine Test.split (fun hlt3 => ?_) (fun hlt3 => ?_)
   · have hlt3' := of_decide_eq_true hlt3
     refine s_skip1 ?_
     simp +decide only [pqn]
     refine s_block ?_
     refine s_reg1 ?_
     simp only [o_pure, o_callF, POp.ev, Opd.ev, gv, setD, List.map, xsj, xel]
     refine (Ints.power_ok _ 0 _ (by omega)).eq ?_
     have w1 : IntKind.i64.wrap (w * 2 ^ 0) = w := by rw [Int.pow_zero, Int.mul_one]; exact W_of_in hw
     simp only [o_cont, o_pure, o_nil, POp.ev, Opd.ev, gv, setD, List.set, xsj, xel, binV, ne_eq, xnt, if_false, w1]
     simp +decide only [pqn, pbn]
     have w2 : IntKind.i64.wrap (d + 1) = d + 1 := wr_id (by omega) (by omega)
     refine s_reg1 ?_
     simp only [o_pure, o_nil, POp.ev, Opd.ev, gv, setD, List.set, xsj, xel, binV, ne_eq, xnt, if_false, w2]
     simp +decide only [pqn]
     exact Round.mk (k3 - 1) (by omega) ⟨rfl, d + 1, by omega, by omega, rfl⟩
   refine s_exit1 ?_
   simp +decide only [pqn, pqe, pbe, reduceIte]
   refine s_reg1 ?_
   simp only [o_pure, o_nil, POp.ev, Opd.ev, gv, setD, List.set, xsj, xel, binV, ne_eq, xnt, if_false]
   simp +decide only [pqn, pbn]
   refine s_reg1 ?_
   simp only [o_pure, o_nil, POp.ev, Opd.ev, gv, setD, List.set, xsj, xel, binV, ne_eq, xnt, if_false, add1 (i := j) (by omega)]
   simp +decide only [pqn]
   refine Round.mk (k - 1) (by omega) ⟨j + 1, W (r + w), _, _, _, _, _, _, _, _, _, _, _, by omega, W_in _, ?_, hx1.trans hx2, rfl⟩
   rw [htake]
   exact (cg_W _).trans (hcg.add hcw)
 · have hj : j = p.length := by simp at hlt; omega
   subst hj
   refine s_exit1 ?_
   simp +decide only [pqn, pqe, pbe, reduceIte]
   refine s_reg ?_
   simp only [o_pure, o_nil, POp.ev, Opd.ev, gv, setD, List.set, xsj, xel, binV, ne_eq, xnt, if_false]
   refine s_ret1 ?_
   simp +decide only [pfr, resV, resOne, resL, gv, xsj, xel, Option.bind_some, xms]
   rw [List.take_length] at hcg
   exact ⟨⟨r, rfl, hr, hcg⟩, hx⟩
theorem SlI.ext' {H H' : AHeap} {v : Value} {l : List Int} (h : SlI H v l) (hx : Ext H H') : SlI H' v l := Sl.keep h (Keep.of_ext hx (Nat.le_refl _)) (Nat.le_refl _)
theorem bslice1 (H : AHeap) (k : IntKind) (x : Int) (z : Value) : bsliceH H 1 [z] [(0, 1, .int k x)] = some (.slice (some ⟨H.next, 0, some 0⟩) 1 1, H.alloc [.int k x]) := by
 simp [bsliceH, fillV, cellsV]
theorem VecI.push {lim : Nat} {H : AHeap} {b : Nat} {v : Value} {l : List Int} (h : VecI H b v l) (x : Int) (hl : lim ≤ b) (hn : l.length ≤ 1000000000) :
   ∃ v' H' b', appendH lim (H.alloc [vi x]) 1 8 v (.slice (some ⟨H.next, 0, some 0⟩) 1 1) = some (v', H') ∧ VecI H' b' v' (l ++ [x]) ∧ (b' = b ∨ H.next ≤ b') ∧ b' < H'.next ∧ Chg b H H' := by
 have hx : Vec (H.alloc [vi x]) H.next (.slice (some ⟨H.next, 0, some 0⟩) 1 1) 1 1 [vi x] := Vec.lit rfl
 obtain ⟨v', H', b', h1, h2, h3, h4, h5⟩ := (Vec.ext h (Ext.alloc H [vi x])).append (lim := lim) hl hx.sl (by decide) (bytes := 8) (by omega)
 refine ⟨v', H', b', h1, by simpa [VecI] using h2, ?_, (h2.blk (by omega)).elim fun _ h => h.2, (Chg.of_ext (Ext.alloc H [vi x])).trans h4⟩
 rcases h3 with rfl | ⟨rfl, _⟩
 · exact .inl rfl
 · exact .inr (Nat.le_succ _)
def vz (l : List Int) (p : List Tm) : Int := ev (fun t => prodTo l t l.length) p
def sumE (t : Tm) : Nat → Nat
 | 0 => 0
 | k + 1 => sumE t k + (pw t k).toNat
theorem prodTo_abs {l : List Int} (h : ∀ n ∈ l, n.natAbs ≤ 8) (t : Tm) : ∀ k, (prodTo l t k).natAbs ≤ 8 ^ sumE t k
 | 0 => Nat.le_refl _
 | k + 1 => by
   rw [prodTo, sumE, Int.natAbs_mul, Int.natAbs_pow, Nat.pow_add]
   refine Nat.mul_le_mul (prodTo_abs h t k) (Nat.pow_le_pow_left ?_ _)
   rw [List.getD_eq_getElem?_getD]
   cases hg : l[k]? with
   | none => simp
   | some n => exact h n (List.mem_of_getElem? hg)
theorem sumE_le {t : Tm} (h : okTm t = true) {k : Nat} (hk : k ≤ 3) : sumE t k ≤ 4 := by
 have hb := (okTm_iff t).1 h
 match k, hk with
 | 0, _ => simp [sumE]
 | 1, _ => simp [sumE, pw]; omega
 | 2, _ => simp [sumE, pw]; omega
 | 3, _ => simp [sumE, pw]; omega
theorem term_abs {l : List Int} {t : Tm} (hl : l.length ≤ 3) (h : ∀ n ∈ l, n.natAbs ≤ 8) (ht : okTm t = true) : (t.c * prodTo l t l.length).natAbs ≤ 4096000 := by
 have hb := (okTm_iff t).1 ht
 have h1 := prodTo_abs h t l.length
 have h2 : 8 ^ sumE t l.length ≤ 8 ^ 4 := Nat.pow_le_pow_right (by decide) (sumE_le ht hl)
 rw [Int.natAbs_mul]
 have h3 : t.c.natAbs ≤ 1000 := by omega
 have := Nat.mul_le_mul h3 (Nat.le_trans h1 h2)
 exact Nat.le_trans this (by decide)
theorem vz_abs {l : List Int} (hl : l.length ≤ 3) (h : ∀ n ∈ l, n.natAbs ≤ 8) : ∀ {p : List Tm}, (∀ t ∈ p, okTm t = true) → (vz l p).natAbs ≤ 4096000 * p.length
 | [], _ => by simp [vz, ev]
 | t :: p, hp => by
   have h1 := term_abs hl h (hp t (by simp))
   have h2 := vz_abs hl h (p := p) (fun x hx => hp x (by simp [hx]))
   have e : vz l (t :: p) = t.c * prodTo l t l.length + vz l p := rfl
   rw [e, List.length_cons]
   omega
theorem ptB_iff (l : List Int) : ptB l = true ↔ (∀ n ∈ l, -8 ≤ n ∧ n ≤ 8) ∧ 1 ≤ l.length ∧ l.length ≤ 3 := by
 unfold ptB
 rw [Bool.and_eq_true, Bool.and_eq_true, List.all_eq_true, decide_eq_true_eq, decide_eq_true_eq]
 have e : ((1 : Int) ≤ l.length ∧ (l.length : Int) ≤ 3) ↔ (1 ≤ l.length ∧ l.length ≤ 3) := by omega
 have e2 : (∀ n ∈ l, inP n = true) ↔ (∀ n ∈ l, -8 ≤ n ∧ n ≤ 8) := by simp [inP]
 rw [e, e2]
theorem vz_small {l : List Int} (h : ptB l = true) {p : List Tm} (hp : ∀ t ∈ p, okTm t = true) (hn : p.length ≤ 20) : (vz l p).natAbs ≤ 81920000 := by
 obtain ⟨h1, h2, h3⟩ := (ptB_iff l).1 h
 have := vz_abs h3 (fun n hn => by have := h1 n hn; omega) hp
 omega
theorem vz_eq {l : List Int} (h : ptB l = true) {p : List Tm} (hp : ∀ t ∈ p, okTm t = true) (hn : p.length ≤ 20) {r : Int} (hr : inR r) (hc : cg r (vz l p)) : r = vz l p := by
 have := vz_small h hp hn
 exact hc.eq hr (by unfold inR; omega)
def sgns (l : List Int) (ss : List (List Tm)) : List Int := ss.map fun p => sgn3 (vz l p)
def sgR (ss : List (List Tm)) (l : List Int) : Option (List Int) := if goodSS ss && ptB l && (l.length == ss.length) then some (sgns l ss) else none
def ResI (H : AHeap) (v : Value) (r : Option (List Int)) : Prop := ∃ x, v = .tuple #[x, .bool r.isSome] ∧ SlI H x (r.getD [])
theorem sgns_take {l : List Int} {ss : List (List Tm)} {i : Nat} (h : i < ss.length) : sgns l (ss.take (i + 1)) = sgns l (ss.take i) ++ [sgn3 (vz l ss[i])] := by
 unfold sgns
 rw [List.take_succ_eq_append_getElem h, List.map_append]
 rfl
theorem vaSigns_ok (lim : Nat) (s pt : Value) (ss : List (List Tm)) (l : List Int) (H : AHeap) (hl : lim ≤ H.next) (hs : SlSS H s ss) (hp : SlP H pt l) (hg : goodSS ss = true) (hpt : ptB l = true) :
   ACalls Tryz.prog lim n_spec_vaSigns [s, pt] H fun v H' => SlI H' v (sgns l ss) ∧ Ext H H' := by
 obtain ⟨_, hlen, hall⟩ := goodSS_all hg
 obtain ⟨_, _, hl3⟩ := (ptB_iff l).1 hpt
 refine is_spec_vaSigns.go rfl ?_
 unfold c_spec_vaSigns
 refine s_reg ?_
 simp only [o_pure, o_nil, POp.ev, Opd.ev, env0, gu, setD, List.set, xsj, xel]
 refine s_reg ?_
 simp only [o_pure, o_nil, POp.ev, Opd.ev, setD, List.set, xsj, xel]
 refine s_assoc (s_reg ?_)
 simp only [o_pure, o_nil, POp.ev, Opd.ev, gv, setD, List.set, xsj, xel, hs.lenV]
 refine s_block ?_
 refine s_loop1 (fun k e' H' => ∃ (i c : Nat) (v x4 x5 : Value), i + k = ss.length ∧ VecI H' c v (sgns l (ss.take i)) ∧ H.next ≤ c ∧ Ext H H' ∧ e' = [s, pt, .slice none 0 0, v, x4, x5, s, .int .i64 ss.length, .int .i64 i]) ss.length ⟨0, H.next, _, _, _, by omega, Vec.nil _ _ _, Nat.le_refl _, Ext.refl _, rfl⟩ ?_
 rintro k e' H' ⟨i, c, v, x4, x5, hik, hv, hc, hx, rfl⟩
 have hnx := hx.next
 refine s_test ?_
 simp only [o_pure, o_nil, POp.ev, Opd.ev, gv, setD, xsj, xel, binV, ne_eq, xnt, if_false]
 refine Test.split (fun hlt => ?_) (fun hlt => ?_)
 · have hlt' : i < ss.length := by simpa using hlt
   obtain ⟨b1, o1, s1, h1, h2, h3⟩ := (hs.ext hx).at hlt'
   obtain ⟨p20, pok, _⟩ := hall _ (List.getElem_mem hlt')
   refine s_skip1 ?_
   simp +decide only [pqn]
   refine s_block ?_
   refine s_reg ?_
   simp only [o_pure, o_nil, POp.ev, Opd.ev, gv, setD, List.set, xsj, xel, load1V, h1, h2]
   refine s_reg ?_
   simp only [o_pure, o_callF, POp.ev, Opd.ev, gv, setD, List.map, xsj, xel]
   refine (vaSum_ok lim s1 pt ss[i] l H' (by omega) h3 (hp.ext hx) (by omega) hl3 (fun t ht => (pok t ht).1)).mono ?_
   rintro _ H2 ⟨⟨r, rfl, hr, hcg⟩, hx2⟩
   have hre := vz_eq hpt (fun t ht => (pok t ht).1) p20 hr hcg
   subst hre
   have hn2 := hx2.next
   obtain ⟨v', H3, c', g1, g2, g3, g4, g5⟩ := VecI.push (lim := lim) (Vec.ext hv hx2) (sgn3 (vz l ss[i])) (by omega) (by simp [sgns]; omega)
   simp only [o_cont, o_pure, o_nil, POp.ev, Opd.ev, gv, setD, List.set, xsj, xel, extV, List.getElem?_toArray, xgz, xgs]
   refine s_reg1 ?_
   simp only [o_pure, o_callF, POp.ev, Opd.ev, gv, setD, List.map, xsj, xel]
   refine (l1Sign_ok _ _ _).eq ?_
   simp only [o_cont, o_pure, o_eff, o_nil, POp.ev, Opd.ev, EOp.ev, gv, setD, List.set, List.map, xsj, xel, bslice1, g1]
   simp +decide only [pqn, pbn]
   refine s_reg1 ?_
   simp only [o_pure, o_nil, POp.ev, Opd.ev, gv, setD, List.set, xsj, xel, binV, ne_eq, xnt, if_false, add1 (i := i) (by omega)]
   simp +decide only [pqn]
   refine Round.mk (k - 1) (by omega) ⟨i + 1, c', v', _, _, by omega, ?_, ?_, Chg.ext (hx.trans hx2) g5 hc, rfl⟩
   · rw [sgns_take hlt']; exact g2
   · rcases g3 with rfl | g3 <;> omega
 · have hi : i = ss.length := by simp at hlt; omega
   subst hi
   refine s_exit1 ?_
   simp +decide only [pqn, pqe, pbe, reduceIte]
   refine s_reg ?_
   simp only [o_pure, o_nil, POp.ev, Opd.ev, gv, setD, List.set, xsj, xel]
   refine s_ret1 ?_
   simp +decide only [pfr, resV, resOne, gv, xsj, xel]
   rw [List.take_length] at hv
   exact ⟨hv.sl, hx⟩
theorem SlI.nil' (H : AHeap) : SlI H (.slice none 0 0) [] := Vec.sl (Vec.nil H 0 1)
theorem sSignsAt_ok (lim : Nat) (s pt : Value) (ss : List (List Tm)) (l : List Int) (H : AHeap) (hl : lim ≤ H.next) (hs : SlSS H s ss) (hp : SlP H pt l) (hn : ss.length ≤ 1000000) (hn2 : ∀ p ∈ ss, p.length ≤ 1000000) (hln : l.length ≤ 1000000) (hb : ∀ n ∈ l, n.natAbs ≤ 1000000) :
   ACalls Tryz.prog lim n_spec_SignsAt [s, pt] H fun v H' => ResI H' v (sgR ss l) ∧ Ext H H' := by
 refine is_spec_SignsAt.go rfl ?_
 unfold c_spec_SignsAt
 refine s_reg ?_
 simp only [o_pure, o_nil, POp.ev, Opd.ev, env0, gu, setD, List.set, xsj, xel]
 refine s_test_I (!(goodSS ss && ptB l && (l.length == ss.length))) (Ext H) ?_ (fun H1 hx hg => ?_) (fun H1 hx hg => ?_)
 · simp only [o_pure, o_callF, POp.ev, Opd.ev, gv, setD, List.map, xsj, xel]
   refine (poSystem_ok lim _ _ _ hl hs hn hn2).mono ?_
   rintro _ H1 ⟨rfl, hx⟩
   have hnx := hx.next
   cases h1 : goodSS ss
   · simp only [o_cont, o_pure, o_guard, gk_tf, o_nil, POp.ev, Opd.ev, gv, setD, xsj, xel, pickV, unV, Bool.not_false]
     exact ⟨by simp, trivial, hx⟩
   simp only [o_cont, o_pure, o_callF, o_guard, gk_ff, POp.ev, Opd.ev, gv, setD, List.map, xsj, xel, unV, Bool.not_true]
   refine (vaPoint_ok lim pt l H1 (by omega) (hp.ext hx) hln hb).mono ?_
   rintro _ H2 ⟨rfl, hx2⟩
   cases h2 : ptB l
   · simp only [o_cont, o_pure, o_guard, gk_ff, gk_tf, o_nil, POp.ev, Opd.ev, gv, setD, xsj, xel, pickV, unV, Bool.not_false]
     exact ⟨by simp, trivial, hx.trans hx2⟩
   simp only [o_cont, o_pure, o_guard, gk_ff, o_nil, POp.ev, Opd.ev, gv, setD, xsj, xel, pickV, binV, unV, ne_eq, xnt, if_false, Bool.not_true, hp.lenV, hs.lenV]
   refine ⟨?_, trivial, hx.trans hx2⟩
   congr 1
   rw [Bool.eq_iff_iff]
   simp
   omega
 · refine s_reg ?_
   simp only [o_pure, o_nil, POp.ev, Opd.ev, setD, List.set, xsj, xel]
   refine s_ret1 ?_
   simp +decide only [pqr, pfr, resV, resOne, resL, gv, xsj, xel, Option.bind_some, xms]
   have hg' : (goodSS ss && ptB l && (l.length == ss.length)) = false := (Bool.not_eq_true' _).mp hg
   unfold sgR
   rw [hg']
   exact ⟨⟨_, rfl, SlI.nil' _⟩, hx⟩
 · refine s_skip1 ?_
   simp +decide only [pqn]
   have hg' : (goodSS ss && ptB l && (l.length == ss.length)) = true := (Bool.not_eq_false' _).mp hg
   have hg2 := hg'
   simp only [Bool.and_eq_true] at hg2
   have hnx := hx.next
   refine s_reg ?_
   simp only [o_pure, o_callF, POp.ev, Opd.ev, gv, setD, List.map, xsj, xel]
   refine (vaSigns_ok lim s pt ss l H1 (by omega) (hs.ext hx) (hp.ext hx) hg2.1.1 hg2.1.2).mono ?_
   rintro v H2 ⟨hv, hx2⟩
   simp only [o_cont, o_pure, o_nil, POp.ev, Opd.ev, gv, setD, List.set, xsj, xel]
   refine s_ret1 ?_
   simp +decide only [pfr, resV, resOne, resL, gv, xsj, xel, Option.bind_some, xms]
   unfold sgR
   rw [hg']
   exact ⟨⟨_, rfl, hv⟩, hx.trans hx2⟩
theorem bsliceL {H : AHeap} {n : Nat} {zs cs : List Value} {ps : List (Nat × Nat × Value)} (h : fillV zs ps = some cs) : bsliceH H n zs ps = some (.slice (some ⟨H.next, 0, some 0⟩) n n, H.alloc cs) := by
 simp [bsliceH, h]
abbrev Ptr (q : Nat) : Value := .pointer (some ⟨q, 0, none⟩)
theorem pick_ok (lim q m : Nat) (B : AHeap) (s : Value) (l : List Int) (n : Int) (H : AHeap) (hl : lim ≤ B.next) (hs : SlB B s l) (hc : Cu B H q s m) (hm : m ≤ 1000000000) (hn : n ≤ 1000000) :
   ACalls Tryz.prog lim n_spec_l1Cur_pick [Ptr q, .int .i64 n] H fun v H' => (∃ x : Int, v = .int .i64 x ∧ 0 ≤ x ∧ (x < n ∨ x = 0)) ∧ Cu B H' q s (m + 2) ∧ Chg q H H' := by
 refine is_spec_l1Cur_pick.go rfl ?_
 unfold c_spec_l1Cur_pick
 refine s_reg ?_
 simp only [o_pure, o_nil, POp.ev, Opd.ev, env0, gu, setD, List.set, xsj, xel]
 refine s_test_same (decide (n ≤ 1)) ?_ (fun hg => ?_) (fun hg => ?_)
 · simp only [o_pure, o_nil, POp.ev, Opd.ev, gv, setD, xsj, xel, binV, ne_eq, xnt, if_false]
   simp
 · refine s_reg ?_
   simp only [o_pure, o_nil, POp.ev, Opd.ev, setD, List.set, xsj, xel]
   refine s_ret1 ?_
   simp +decide only [pqr, pfr, resV, resOne, gv, xsj, xel]
   exact ⟨⟨0, rfl, by omega, .inr rfl⟩, hc.le (by omega), Chg.refl _ _⟩
 have hn1 : 1 < n := by have := of_decide_eq_false hg; omega
 refine s_skip1 ?_
 simp +decide only [pqn]
 refine s_reg ?_
 simp only [o_pure, o_callF, POp.ev, Opd.ev, gv, setD, List.map, xsj, xel]
 refine (next_ok lim q m B s l H hl hs hc (by omega)).mono ?_
 rintro _ H1 ⟨⟨x, rfl, hx0, hx1⟩, hc1, hch1⟩
 simp only [o_cont, o_pure, o_nil, POp.ev, Opd.ev, gv, setD, List.set, xsj, xel]
 refine s_cut (fun e' H' => ∃ y : Int, 0 ≤ y ∧ y ≤ 65535 ∧ Cu B H' q s (m + 2) ∧ Chg q H H' ∧ e' = [Ptr q, .int .i64 n, .int .i64 0, .int .i64 y]) ?_ ?_
 · refine s_test1_same (decide (n > 200)) ?_ (fun hg2 => ?_) (fun hg2 => ?_)
   · simp only [o_pure, o_nil, POp.ev, Opd.ev, gv, setD, xsj, xel, binV, ne_eq, xnt, if_false]
     simp
   · have w1 : IntKind.i64.wrap (x * 256) = x * 256 := wr_id (by omega) (by omega)
     refine s_reg1 ?_
     simp only [o_pure, o_callF, POp.ev, Opd.ev, gv, setD, List.map, xsj, xel, binV, ne_eq, xnt, if_false, w1]
     refine (next_ok lim q (m + 1) B s l H1 hl hs hc1 (by omega)).mono ?_
     rintro _ H2 ⟨⟨y, rfl, hy0, hy1⟩, hc2, hch2⟩
     have w2 : IntKind.i64.wrap (x * 256 + y) = x * 256 + y := wr_id (by omega) (by omega)
     simp only [o_cont, o_pure, o_nil, POp.ev, Opd.ev, gv, setD, List.set, xsj, xel, binV, ne_eq, xnt, if_false, w2]
     simp +decide only [pqn]
     exact ⟨_, by omega, by omega, hc2, hch1.trans hch2, rfl⟩
   · refine s_skip1 ?_
     simp +decide only [pqn]
     exact ⟨x, hx0, by omega, hc1.le (by omega), hch1, rfl⟩
 rintro e' H2 ⟨y, hy0, hy1, hc2, hch2, rfl⟩
 have e0 : ¬ (n = 0) := by omega
 refine s_reg ?_
 simp only [o_pure, o_nil, POp.ev, Opd.ev, gv, setD, List.set, xsj, xel, binV, ne_eq, xnt, if_false, e0]
 refine s_ret1 ?_
 simp +decide only [pfr, resV, resOne, gv, xsj, xel]
 refine ⟨⟨_, rfl, Int.tmod_nonneg _ hy0, .inl ?_⟩, hc2, hch2⟩
 exact Int.tmod_lt_of_pos _ (by omega)
theorem one_ok (lim q m : Nat) (B : AHeap) (s : Value) (l : List Int) (n : Int) (H : AHeap) (hl : lim ≤ B.next) (hs : SlB B s l) (hc : Cu B H q s m) (hm : m ≤ 1000000000) (hn : n ≤ 1000000) :
   ACalls Tryz.prog lim n_spec_l1Cur_one [Ptr q, .int .i64 n] H fun v H' => (∃ x : Bool, v = .bool x) ∧ Cu B H' q s (m + 2) ∧ Chg q H H' := by
 refine is_spec_l1Cur_one.go rfl ?_
 unfold c_spec_l1Cur_one
 refine s_reg ?_
 simp only [o_pure, o_nil, POp.ev, Opd.ev, env0, gu, setD, List.set, xsj, xel]
 refine s_reg ?_
 simp only [o_pure, o_callF, POp.ev, Opd.ev, gv, setD, List.map, xsj, xel]
 refine (pick_ok lim q m B s l n H hl hs hc hm hn).mono ?_
 rintro _ H1 ⟨⟨x, rfl, _⟩, hc1, hch1⟩
 simp only [o_cont, o_pure, o_nil, POp.ev, Opd.ev, gv, setD, List.set, xsj, xel, binV, ne_eq, xnt, if_false]
 refine s_ret1 ?_
 simp +decide only [pfr, resV, resOne, gv, xsj, xel]
 exact ⟨⟨_, rfl⟩, hc1, hch1⟩
theorem among_ok (lim q m b : Nat) (B : AHeap) (s v : Value) (l w : List Int) (H : AHeap) (hl : lim ≤ B.next) (hs : SlB B s l) (hc : Cu B H q s m) (hm : m ≤ 1000000000) (hw : VecI H b v w) (hb : b ≠ q) (hw0 : 0 < w.length) (hw1 : w.length ≤ 1000) :
   ACalls Tryz.prog lim n_spec_l1Cur_among [Ptr q, v] H fun v' H' => (∃ x ∈ w, v' = .int .i64 x) ∧ Cu B H' q s (m + 2) ∧ Chg q H H' := by
 refine is_spec_l1Cur_among.go rfl ?_
 unfold c_spec_l1Cur_among
 refine s_reg ?_
 simp only [o_pure, o_nil, POp.ev, Opd.ev, env0, gu, setD, List.set, xsj, xel]
 refine s_reg ?_
 simp only [o_pure, o_callF, POp.ev, Opd.ev, gv, setD, List.map, xsj, xel, hw.lenV]
 refine (pick_ok lim q m B s l w.length H hl hs hc hm (by omega)).mono ?_
 rintro _ H1 ⟨⟨x, rfl, hx0, hx1⟩, hc1, hch1⟩
 have hw2 : VecI H1 b v w := Vec.chg hw hch1 hb
 obtain ⟨b1, o1, g1, g2, g3⟩ := hw2.sl.cell .i64 (i := x) hx0 (by omega)
 have hlt : x.toNat < w.length := by omega
 have g3' : H1.cell b1 o1 = some (.int .i64 w[x.toNat]) := by
   rw [g3]
   simp [hlt]
 simp only [o_cont, o_pure, o_nil, POp.ev, Opd.ev, gv, setD, List.set, xsj, xel, load1V, g1, g3']
 refine s_ret1 ?_
 simp +decide only [pfr, resV, resOne, gv, xsj, xel]
 exact ⟨⟨_, List.getElem_mem hlt, rfl⟩, hc1, hch1⟩
theorem VecI.lit (H : AHeap) (w : List Int) : VecI (H.alloc (w.map vi)) H.next (.slice (some ⟨H.next, 0, some 0⟩) w.length w.length) w := Vec.lit (by simp)
theorem among_lit (lim q m : Nat) (B : AHeap) (s : Value) (l w : List Int) (H : AHeap) (hl : lim ≤ B.next) (hs : SlB B s l) (hc : Cu B H q s m) (hm : m ≤ 1000000000) (hw0 : 0 < w.length) (hw1 : w.length ≤ 1000) :
   ACalls Tryz.prog lim n_spec_l1Cur_among [Ptr q, .slice (some ⟨H.next, 0, some 0⟩) w.length w.length] (H.alloc (w.map vi)) fun v' H' => (∃ x ∈ w, v' = .int .i64 x) ∧ Cu B H' q s (m + 2) ∧ Chg q H H' := by
 have hx := Ext.alloc H (w.map vi)
 have hlt := hc.lt
 refine ACalls.mono (among_ok lim q m H.next B s _ l w _ hl hs (hc.of_ext hx) hm (VecI.lit H w) (by omega) hw0 hw1) ?_
 rintro v' H' ⟨h1, h2, h3⟩
 exact ⟨h1, h2, (Chg.of_ext hx).trans h3⟩
theorem sideNumber_ok (lim q m : Nat) (B : AHeap) (s : Value) (l : List Int) (H : AHeap) (hl : lim ≤ B.next) (hs : SlB B s l) (hc : Cu B H q s m) (hm : m ≤ 100000000) :
   ACalls Tryz.prog lim n_spec_l1Cur_sideNumber [Ptr q] H fun v' H' => (∃ x : Int, v' = .int .i64 x) ∧ Cu B H' q s (m + 4) ∧ Chg q H H' := by
 refine is_spec_l1Cur_sideNumber.go rfl ?_
 unfold c_spec_l1Cur_sideNumber
 refine s_reg ?_
 simp only [o_pure, o_nil, POp.ev, Opd.ev, env0, gu, setD, List.set, xsj, xel]
 refine s_reg ?_
 have f1 : fillV [.int .i64 0, .int .i64 0, .int .i64 0] [(0, 1, .int .i64 (-1)), (1, 1, .int .i64 3), (2, 1, .int .i64 4611686018427387904)] = some (([-1, 3, 4611686018427387904] : List Int).map vi) := by simp [fillV, cellsV, putL]
 simp only [o_pure, o_eff, o_callF, POp.ev, Opd.ev, EOp.ev, gv, setD, List.map, xsj, xel, bsliceL f1]
 refine (among_lit lim q m B s l [-1, 3, 4611686018427387904] H hl hs hc (by omega) (by decide) (by decide)).mono ?_
 rintro _ H1 ⟨⟨x, _, rfl⟩, hc1, hch1⟩
 have f2 : fillV [.int .i64 0, .int .i64 0, .int .i64 0, .int .i64 0, .int .i64 0, .int .i64 0] [(0, 1, .int .i64 0), (1, 1, .int .i64 0), (2, 1, .int .i64 1), (3, 1, .int .i64 1), (4, 1, .int .i64 2), (5, 1, .int .i64 x)] = some (([0, 0, 1, 1, 2, x] : List Int).map vi) := by simp [fillV, cellsV, putL]
 simp only [o_cont, o_eff, o_callF, Opd.ev, EOp.ev, gv, setD, List.map, xsj, xel, bsliceL f2]
 refine (among_lit lim q (m + 2) B s l [0, 0, 1, 1, 2, x] H1 hl hs hc1 (by omega) (by simp) (by simp)).mono ?_
 rintro _ H2 ⟨⟨y, _, rfl⟩, hc2, hch2⟩
 simp only [o_cont, o_pure, o_nil, POp.ev, Opd.ev, gv, setD, List.set, xsj, xel]
 refine s_ret1 ?_
 simp +decide only [pfr, resV, resOne, gv, xsj, xel]
 exact ⟨⟨y, rfl⟩, hc2, hch1.trans hch2⟩
end Go.Proofs.YtmdeppkfboaepaaGreat
/- The cursor that draws are read from: one term; no condition beyond a count of steps. -/
namespace Go.Ab
theorem Chg.above {q b : Nat} {H H1 H2 : AHeap} (h : Chg q H H1) (k : Chg b H1 H2) (hb : H.next ≤ b) : Chg q H H2 :=
 ⟨Nat.le_trans h.next k.next, fun b' h1 hn => (k.blk b' (Nat.lt_of_lt_of_le h1 h.next) (by omega)).trans (h.blk b' h1 hn)⟩
theorem Chg.more {q : Nat} {H H1 H2 : AHeap} (h : Chg q H H1) (k : Ext H1 H2) : Chg q H H2 := h.trans (Chg.of_ext k)
theorem Chg.kept {q b : Nat} {H H1 : AHeap} {cs : Option (List Value)} (h : Chg q H H1) (hb : H.blk b = cs) (hlt : b < H.next) (hn : b ≠ q) : H1.blk b = cs := by rw [h.blk b hlt hn]; exact hb
end Go.Ab
namespace Go.Proofs.YtmdeppkfboaepaaGreat
open Go.Ab Ints
set_option linter.unusedSimpArgs false
set_option linter.unusedVariables false
def SmT (t : Tm) : Prop := (-1000 ≤ t.c ∧ t.c ≤ 1000) ∧ (0 ≤ t.x ∧ t.x ≤ 4) ∧ (0 ≤ t.y ∧ t.y ≤ 4) ∧ (0 ≤ t.z ∧ t.z ≤ 4)
theorem SmT.wi {t : Tm} (h : SmT t) (k : Int) {e : Int} (he : 0 ≤ e ∧ e ≤ 4) : SmT (wi t k e) := by
 unfold SmT Go.Proofs.YtmdeppkfboaepaaGreat.wi at *
 split
 · simp only; omega
 · split <;> simp only <;> omega
theorem SmT.exB {t : Tm} (h : SmT t) : exB t := by unfold SmT at h; unfold Go.Proofs.YtmdeppkfboaepaaGreat.exB; omega
abbrev z4 : List Value := [.int .i64 0, .int .i64 0, .int .i64 0, .int .i64 0]
set_option maxHeartbeats 1000000 in
theorem term_ok (lim q m : Nat) (B : AHeap) (s : Value) (l : List Int) (n : Nat) (H : AHeap) (hl : lim ≤ B.next) (hs : SlB B s l) (hc : Cu B H q s m) (hm : m ≤ 100000000) (hn : n ≤ 4) :
   ACalls Tryz.prog lim n_spec_l1Cur_term [Ptr q, .int .i64 n] H fun v H' => (∃ t, v = tv t ∧ SmT t) ∧ Cu B H' q s (m + 24) ∧ Chg q H H' := by
 have hqH := hc.lt
 have hBq := hc.ge
 refine is_spec_l1Cur_term.go rfl ?_
 unfold c_spec_l1Cur_term
 refine s_reg ?_
 simp only [o_eff, o_nil, EOp.ev, env0, gu, setD, List.set, xsj, xel]
 have hx := Ext.alloc H z4
 have hr2 : (H.alloc z4).blk H.next = some z4 := alloc_new _ _
 have hn1 : (H.alloc z4).next = H.next + 1 := rfl
 generalize H.alloc z4 = H1 at hx hr2 hn1 ⊢
 have hc1 := hc.of_ext hx
 refine s_reg ?_
 simp only [o_pure, o_callF, POp.ev, Opd.ev, gv, setD, List.map, xsj, xel]
 refine (pick_ok lim q m B s l 41 H1 hl hs hc1 (by omega) (by omega)).mono ?_
 rintro _ H2 ⟨⟨x, rfl, hx0, hx1⟩, hc2, hch2⟩
 have w1 : IntKind.i64.wrap (x - 20) = x - 20 := wr_id (by omega) (by omega)
 have f2 : fillV [.int .i64 0, .int .i64 0, .int .i64 0, .int .i64 0, .int .i64 0, .int .i64 0] [(0, 1, .int .i64 1), (1, 1, .int .i64 (-1)), (2, 1, .int .i64 2), (3, 1, .int .i64 (-3)), (4, 1, .int .i64 4), (5, 1, .int .i64 (x - 20))] = some (([1, -1, 2, -3, 4, x - 20] : List Int).map vi) := by simp [fillV, cellsV, putL]
 simp only [o_cont, o_pure, o_eff, o_callF, POp.ev, Opd.ev, EOp.ev, gv, setD, List.map, xsj, xel, binV, ne_eq, xnt, if_false, w1, bsliceL f2]
 refine (among_lit lim q (m + 2) B s l [1, -1, 2, -3, 4, x - 20] H2 hl hs hc2 (by omega) (by simp) (by simp)).mono ?_
 rintro _ H3 ⟨⟨c, hcm, rfl⟩, hc3, hch3⟩
 have hcb : -1000 ≤ c ∧ c ≤ 1000 := by
   simp at hcm
   omega
 have hn2 := hch2.next
 have hn3 := hch3.next
 have hf : fillV z4 [(0, 1, .int .i64 c)] = some (tc ⟨c, 0, 0, 0⟩) := by simp [fillV, cellsV, tc]
 have hst : storeH lim (H3.alloc z4) 4 (.pointer (some ⟨H3.next, 0, none⟩)) (.agg (tc ⟨c, 0, 0, 0⟩).toArray) = some (undef, H3.alloc (tc ⟨c, 0, 0, 0⟩)) := store4_new (t := ⟨c, 0, 0, 0⟩) (by omega)
 simp only [o_cont, o_pure, o_eff, o_nil, POp.ev, Opd.ev, EOp.ev, gv, setD, List.set, List.map, xms, xsj, xel, hf, hst]
 have hr3 : (H3.alloc (tc ⟨c, 0, 0, 0⟩)).blk H3.next = some (tc ⟨c, 0, 0, 0⟩) := alloc_new _ _
 have hx4 := Ext.alloc H3 (tc ⟨c, 0, 0, 0⟩)
 have hn4 : (H3.alloc (tc ⟨c, 0, 0, 0⟩)).next = H3.next + 1 := rfl
 generalize H3.alloc (tc ⟨c, 0, 0, 0⟩) = H4 at hr3 hx4 hn4 ⊢
 have hc4 := hc3.of_ext hx4
 have hch4 : Chg q H H4 := (Chg.of_ext hx).trans (hch2.trans (hch3.more hx4))
 have hr24 : H4.blk H.next = some z4 := (hch2.trans (hch3.more hx4)).kept hr2 (by omega) (by omega)
 generalize hr3e : H3.next = r3 at *
 generalize hr2e : H.next = r2 at *
 have h23 : r2 < r3 := by omega
 refine s_reg ?_
 simp only [o_pure, o_nil, POp.ev, Opd.ev, setD, List.set, xsj, xel]
 refine s_assoc (s_reg ?_)
 simp only [o_pure, o_nil, POp.ev, Opd.ev, setD, List.set, xsj, xel]
 refine s_block ?_
 refine s_loop1 (fun j e' H' => ∃ (k : Nat) (t : Tm) (left : Int) (x6 : Value), k + j = n ∧ SmT t ∧ (0 ≤ left ∧ left ≤ 4) ∧ H'.blk r3 = some (tc t) ∧ H'.blk r2 = some z4 ∧ r3 < H'.next ∧ Cu B H' q s (m + 4 + 4 * k) ∧ Chg q H H' ∧ e' = [Ptr q, .int .i64 n, Ptr r2, Ptr r3, .int .i64 left, .int .i64 k, x6]) n ⟨0, _, 4, _, by omega, (by unfold SmT; simp only; omega), by omega, hr3, hr24, by omega, hc4, hch4, rfl⟩ ?_
 clear hr3 hr24 hc4 hch4 hr2 hn2 hch2 hcb hcm hch3 hst hf f2 w1 hx0 hx1
 rintro j e' H' ⟨k, t, left, x6, hkj, hT, hlf, hb3, hb2, hlt3, hcu, hch, rfl⟩
 refine s_test ?_
 simp only [o_pure, o_nil, POp.ev, Opd.ev, gv, setD, xsj, xel, binV, ne_eq, xnt, if_false]
 refine Test.split (fun hlt => ?_) (fun hlt => ?_)
 · have hlt' : k < n := by have := of_decide_eq_true hlt; omega
   have wl : IntKind.i64.wrap (left + 1) = left + 1 := wr_id (by omega) (by omega)
   refine s_skip1 ?_
   simp +decide only [pqn]
   refine s_block ?_
   refine s_reg ?_
   simp only [o_pure, o_callF, POp.ev, Opd.ev, gv, setD, List.map, xsj, xel, binV, ne_eq, xnt, if_false, wl]
   refine (pick_ok lim q (m + 4 + 4 * k) B s l (left + 1) H' hl hs hcu (by omega) (by omega)).mono ?_
   rintro _ G1 ⟨⟨y, rfl, hy0, hy1⟩, gc1, gch1⟩
   have g2 : fillV [.int .i64 0, .int .i64 0, .int .i64 0, .int .i64 0, .int .i64 0, .int .i64 0] [(0, 1, .int .i64 0), (1, 1, .int .i64 0), (2, 1, .int .i64 1), (3, 1, .int .i64 1), (4, 1, .int .i64 2), (5, 1, .int .i64 y)] = some (([0, 0, 1, 1, 2, y] : List Int).map vi) := by simp [fillV, cellsV, putL]
   simp only [o_cont, o_eff, o_callF, Opd.ev, EOp.ev, gv, setD, List.map, xsj, xel, bsliceL g2]
   refine (among_lit lim q (m + 4 + 4 * k + 2) B s l [0, 0, 1, 1, 2, y] G1 hl hs gc1 (by omega) (by simp) (by simp)).mono ?_
   rintro _ G2 ⟨⟨e, hem, rfl⟩, gc2, gch2⟩
   have he0 : 0 ≤ e := by
     simp at hem
     omega
   simp only [o_cont, o_pure, o_nil, POp.ev, Opd.ev, gv, setD, List.set, xsj, xel]
   have gch := gch1.trans gch2
   have gn := gch.next
   have gb3 := gch.kept hb3 hlt3 (by omega)
   have hn0 := hch.next
   have gb2 := gch.kept hb2 (by omega) (by omega)
   refine s_cut (fun e' H'' => H'' = G2 ∧ ∃ f : Int, 0 ≤ f ∧ f ≤ left ∧ e' = [Ptr q, .int .i64 n, Ptr r2, Ptr r3, .int .i64 left, .int .i64 k, .int .i64 f]) ?_ ?_
   · refine s_test1_same (decide (e > left)) ?_ (fun hg => ?_) (fun hg => ?_)
     · simp only [o_pure, o_nil, POp.ev, Opd.ev, gv, setD, xsj, xel, binV, ne_eq, xnt, if_false]
       simp
     · refine s_reg1 ?_
       simp only [o_pure, o_nil, POp.ev, Opd.ev, gv, setD, List.set, xsj, xel]
       simp +decide only [pqn]
       exact ⟨trivial, left, hlf.1, Int.le_refl _, rfl⟩
     · have := of_decide_eq_false hg
       refine s_skip1 ?_
       simp +decide only [pqn]
       exact ⟨trivial, e, he0, by omega, rfl⟩
   rintro e' G3 ⟨rfl, f, hf0, hf1, rfl⟩
   refine s_reg ?_
   have l4 : loadNV G3 4 (Ptr r3) = some (tv t) := load4 gb3
   simp only [o_pure, o_callF, POp.ev, Opd.ev, gv, setD, List.map, xsj, xel, l4]
   refine (poWith_ok lim t k f G3 (by omega)).mono ?_
   rintro _ G4 ⟨rfl, gx4⟩
   have gb4 : G4.blk r3 = some (tc t) := by rw [gx4.blk _ (by omega)]; exact gb3
   have gb42 : G4.blk r2 = some z4 := by rw [gx4.blk _ (by omega)]; exact gb2
   have gst : storeH lim G4 4 (Ptr r3) (tv (wi t k f)) = some (undef, G4.put r3 (tc (wi t k f))) := by unfold tv; exact store4 (by omega) gb4
   have gnx := gx4.next
   simp only [o_cont, o_eff, o_nil, Opd.ev, EOp.ev, gv, setD, xsj, xel, gst]
   have wl2 : IntKind.i64.wrap (left - f) = left - f := wr_id (by omega) (by omega)
   have hput : (G4.put r3 (tc (wi t k f))).next = G4.next := rfl
   refine s_reg1 ?_
   simp only [o_pure, o_nil, POp.ev, Opd.ev, gv, setD, List.set, xsj, xel, binV, ne_eq, xnt, if_false, wl2]
   simp +decide only [pqn, pbn]
   refine s_reg1 ?_
   simp only [o_pure, o_nil, POp.ev, Opd.ev, gv, setD, List.set, xsj, xel, binV, ne_eq, xnt, if_false, add1 (i := k) (by omega)]
   simp +decide only [pqn]
   refine Round.mk (j - 1) (by omega) ⟨k + 1, wi t k f, left - f, _, by omega, hT.wi k (by omega), by omega, put_same _ _ _, ?_, by omega, ?_, ?_, rfl⟩
   · rw [put_ne G4 _ (by omega)]; exact gb42
   · refine Cu.le (((gc2.of_ext gx4)).chg (Chg.put r3 G4 _) (by omega) (by omega)) (by omega)
   · exact Chg.above ((hch.trans gch).more gx4) (Chg.put r3 G4 _) (by omega)
 refine s_exit1 ?_
 simp +decide only [pqn, pqe, pbe, reduceIte]
 have hn0 := hch.next
 have hkn : k = n := by have := of_decide_eq_false hlt; omega
 subst hkn
 refine s_cut (fun e' H'' => ∃ t : Tm, SmT t ∧ H''.blk r3 = some (tc t) ∧ H''.blk r2 = some z4 ∧ r3 < H''.next ∧ Cu B H'' q s (m + 24) ∧ Chg q H H'' ∧ e' = [Ptr q, .int .i64 k, Ptr r2, Ptr r3, .int .i64 left, .int .i64 k, x6]) ?_ ?_
 · refine s_test1 ?_
   simp only [o_pure, o_callF, POp.ev, Opd.ev, gv, setD, List.map, xsj, xel]
   refine (one_ok lim q (m + 4 + 4 * k) B s l 24 H' hl hs hcu (by omega) (by omega)).mono ?_
   rintro _ G1 ⟨⟨bb, rfl⟩, gc1, gch1⟩
   have gn1 := gch1.next
   have gb3 := gch1.kept hb3 hlt3 (by omega)
   have gb2 := gch1.kept hb2 (by omega) (by omega)
   simp only [o_cont, o_nil, gv, setD]
   refine Test.split (fun hg => ?_) (fun hg => ?_)
   · have g2 : fillV [.int .i64 0, .int .i64 0] [(0, 1, .int .i64 1000), (1, 1, .int .i64 (-1000))] = some (([1000, -1000] : List Int).map vi) := by simp [fillV, cellsV, putL]
     refine s_reg1 ?_
     simp only [o_pure, o_eff, o_callF, POp.ev, Opd.ev, EOp.ev, gv, setD, List.map, xsj, xel, bsliceL g2]
     refine (among_lit lim q (m + 4 + 4 * k + 2) B s l [1000, -1000] G1 hl hs gc1 (by omega) (by simp) (by simp)).mono ?_
     rintro _ G2 ⟨⟨e, hem, rfl⟩, gc2, gch2⟩
     have gn2 := gch2.next
     have gb3' := gch2.kept gb3 (by omega) (by omega)
     have gb2' := gch2.kept gb2 (by omega) (by omega)
     have gst : storeH lim G2 1 (Ptr r3) (.int .i64 e) = some (undef, G2.put r3 (tc { t with c := e })) := by
       simp [storeH, gb3', cellsV, putL, tc]
       omega
     simp only [o_cont, o_pure, o_eff, o_nil, POp.ev, Opd.ev, EOp.ev, gv, setD, xsj, xel, fadV, Nat.add_zero, gst]
     simp +decide only [pqn]
     refine ⟨{ t with c := e }, ?_, put_same _ _ _, ?_, ?_, ?_, ?_, by first | trivial | rfl⟩
     · unfold SmT at hT ⊢
       simp at hem
       simp only
       omega
     · rw [put_ne G2 _ (by omega)]; exact gb2'
     · show r3 < G2.next
       omega
     · exact Cu.le (gc2.chg (Chg.put r3 G2 _) (by omega) (by omega)) (by omega)
     · exact Chg.above (hch.trans (gch1.trans gch2)) (Chg.put r3 G2 _) (by omega)
   · refine s_skip1 ?_
     simp +decide only [pqn]
     exact ⟨t, hT, gb3, gb2, by omega, gc1.le (by omega), hch.trans gch1, by first | trivial | rfl⟩
 rintro e' G ⟨t', hT', gb3, gb2, glt, gc, gch, rfl⟩
 have l4 : loadNV G 4 (Ptr r3) = some (tv t') := load4 gb3
 have gst : storeH lim G 4 (Ptr r2) (tv t') = some (undef, G.put r2 (tc t')) := by unfold tv; exact store4 (by omega) gb2
 refine s_reg ?_
 simp only [o_pure, o_eff, o_nil, POp.ev, Opd.ev, EOp.ev, gv, setD, xsj, xel, l4, gst]
 refine s_ret1 ?_
 simp +decide only [pfr, resV, resOne, gv]
 have l5 : loadNV (G.put r2 (tc t')) 4 (Ptr r2) = some (tv t') := load4 (put_same _ _ _)
 simp only [l5, xsj, xel]
 exact ⟨⟨t', rfl, hT'⟩, gc.chg (Chg.put r2 G _) (by omega) (by omega), Chg.above gch (Chg.put r2 G _) (by omega)⟩
theorem putF_exB {t : Tm} {l : List Tm} (ht : exB t) (hl : ∀ x ∈ l, exB x) : ∀ x ∈ putF t l, exB x := by
 intro x hx
 rcases mem_putF hx with h | h
 · exact hl x h
 · rw [ordT_zero] at h
   unfold exB at ht ⊢
   omega
theorem poSum_ok (lim : Nat) (s : Value) (p : List Tm) (H : AHeap) (hl : lim ≤ H.next) (hs : SlT H s p) (hn : p.length ≤ 1000) (hok : ∀ t ∈ p, exB t) :
   ACalls Tryz.prog lim n_spec_poSum [s] H fun v H' => (∃ x ok, v = .tuple #[x, .bool ok] ∧ (ok = true → ∃ r b, H.next ≤ b ∧ b ≤ H'.next ∧ VecT H' b x r ∧ goodP r = true)) ∧ Ext H H' := by
 refine is_spec_poSum.go rfl ?_
 unfold c_spec_poSum
 refine s_reg ?_
 simp only [o_pure, o_nil, POp.ev, Opd.ev, env0, gu, setD, List.set, xsj, xel]
 refine s_reg ?_
 simp only [o_pure, o_nil, POp.ev, Opd.ev, setD, List.set, xsj, xel]
 refine s_assoc (s_reg ?_)
 simp only [o_pure, o_nil, POp.ev, Opd.ev, gv, setD, List.set, xsj, xel, hs.lenV]
 refine s_block ?_
 refine s_loop1 (fun j e' H' => ∃ (i b : Nat) (v x4 : Value) (acc : List Tm), i + j = p.length ∧ acc.length ≤ i ∧ (∀ t ∈ acc, exB t) ∧ VecT H' b v acc ∧ H.next ≤ b ∧ b ≤ H'.next ∧ Ext H H' ∧ e' = [s, .slice none 0 0, .bool false, v, x4, s, .int .i64 p.length, .int .i64 i]) p.length ⟨0, H.next, _, _, [], by omega, Nat.le_refl _, by simp, Vec.nil _ _ _, Nat.le_refl _, Nat.le_refl _, Ext.refl _, rfl⟩ ?_
 rintro j e' H' ⟨i, b, v, x4, acc, hij, hacc, hex, hv, hb1, hb2, hx, rfl⟩
 have hnx := hx.next
 refine s_test ?_
 simp only [o_pure, o_nil, POp.ev, Opd.ev, gv, setD, xsj, xel, binV, ne_eq, xnt, if_false]
 refine Test.split (fun hlt => ?_) (fun hlt => ?_)
 · have hlt' : i < p.length := by simpa using hlt
   obtain ⟨b1, o1, h1, hat⟩ := (hs.ext hx).at hlt'
   have hoki := hok _ (List.getElem_mem hlt')
   generalize p[i] = t at hat hoki
   refine s_skip1 ?_
   simp +decide only [pqn]
   refine s_block ?_
   refine s_reg ?_
   simp only [o_pure, o_eff, o_nil, POp.ev, Opd.ev, EOp.ev, gv, setD, List.set, xsj, xel, h1, hat.all, store4_new (lim := lim) (H := H') (by omega)]
   have hB := BoxT.mk' H' t
   generalize hH1 : H'.alloc (tc t) = H1 at hB ⊢
   generalize hq : H'.next = q at hB hnx hb2 ⊢
   have hx1 := hx.trans hB.ext
   have hnx1 := hB.ext.next
   have hvx := VecT.ext hv hB.ext
   refine s_reg1 ?_
   simp only [o_pure, o_callF, POp.ev, Opd.ev, gv, setD, List.map, xsj, xel, hB.all]
   refine (putG_ok lim v acc t H1 (by omega) hvx.sl (by omega) hex hoki).mono ?_
   rintro v' H2 ⟨b', g1, g2, g3, gx⟩
   simp only [o_cont, o_pure, o_nil, POp.ev, Opd.ev, gv, setD, List.set, xsj, xel]
   simp +decide only [pqn, pbn]
   refine s_reg1 ?_
   simp only [o_pure, o_nil, POp.ev, Opd.ev, gv, setD, List.set, xsj, xel, binV, ne_eq, xnt, if_false, add1 (i := i) (by omega)]
   simp +decide only [pqn]
   have hpl := putF_length t acc
   exact Round.mk (j - 1) (by omega) ⟨i + 1, b', v', _, putF t acc, by omega, by omega, putF_exB hoki hex, g3, by omega, g2, hx1.trans gx, rfl⟩
 refine s_exit1 ?_
 simp +decide only [pqn, pqe, pbe, reduceIte]
 have hi : i = p.length := by simp at hlt; omega
 refine s_test_I (!goodP acc) (Ext H') ?_ (fun H2 hx2 hg => ?_) (fun H2 hx2 hg => ?_)
 · simp only [o_pure, o_callF, POp.ev, Opd.ev, gv, setD, List.map, xsj, xel]
   refine (poGood_ok lim v acc H' (by omega) hv.sl (by omega)).mono ?_
   rintro _ H2 ⟨rfl, hx2⟩
   simp only [o_cont, o_pure, o_nil, POp.ev, Opd.ev, gv, setD, xsj, xel, unV]
   exact ⟨trivial, trivial, hx2⟩
 · refine s_reg ?_
   simp only [o_pure, o_nil, POp.ev, Opd.ev, setD, List.set, xsj, xel]
   refine s_ret1 ?_
   simp +decide only [pqr, pfr, resV, resOne, resL, gv, xsj, xel, Option.bind_some, xms]
   exact ⟨⟨_, _, rfl, fun h => by cases h⟩, hx.trans hx2⟩
 · refine s_skip1 ?_
   simp +decide only [pqn]
   refine s_reg ?_
   simp only [o_pure, o_nil, POp.ev, Opd.ev, gv, setD, List.set, xsj, xel]
   refine s_ret1 ?_
   simp +decide only [pfr, resV, resOne, resL, gv, xsj, xel, Option.bind_some, xms]
   have hn2 := hx2.next
   exact ⟨⟨_, _, rfl, fun _ => ⟨acc, b, hb1, by omega, VecT.ext hv hx2, (Bool.not_eq_false' _).mp hg⟩⟩, hx.trans hx2⟩
theorem poAdd_ok (lim : Nat) (s u : Value) (p w : List Tm) (H : AHeap) (hl : lim ≤ H.next) (hs : SlT H s p) (hu : SlT H u w) (hn : p.length + w.length ≤ 1000) (hok : ∀ t ∈ p, exB t) (hok2 : ∀ t ∈ w, exB t) :
   ACalls Tryz.prog lim n_spec_poAdd [s, u] H fun v H' => (∃ x ok, v = .tuple #[x, .bool ok] ∧ (ok = true → ∃ r b, H.next ≤ b ∧ b ≤ H'.next ∧ VecT H' b x r ∧ goodP r = true)) ∧ Ext H H' := by
 refine is_spec_poAdd.go rfl ?_
 unfold c_spec_poAdd
 refine s_reg ?_
 simp only [o_pure, o_nil, POp.ev, Opd.ev, env0, gu, setD, List.set, xsj, xel]
 obtain ⟨v1, H1, b1, g1, g2, g3, g4, gx⟩ := own_terms (lim := lim) hl hs (by omega)
 obtain ⟨v2, H2, b2, k1, k2, k3, k4, k5⟩ := Vec.append (lim := lim) g2 (by omega) (hu.ext gx) (by decide) (bytes := 32) (by omega)
 have hx2 : Ext H H2 := Chg.ext gx k4 g3
 have hn2 := hx2.next
 refine s_reg ?_
 simp only [o_pure, o_eff, o_callF, POp.ev, Opd.ev, EOp.ev, gv, setD, List.map, xsj, xel, bslice0, g1, k1]
 have k2' : SlT H2 v2 (p ++ w) := by
   have := Vec.sl k2
   show Sl H2 v2 (p ++ w).length 4 (tcs (p ++ w))
   rw [List.length_append, tcs_append]
   exact this
 refine (poSum_ok lim v2 (p ++ w) H2 (by omega) k2' (by simpa using hn) (fun t ht => (List.mem_append.1 ht).elim (hok t) (hok2 t))).mono ?_
 rintro _ H3 ⟨⟨x, ok, rfl, hr⟩, hx3⟩
 simp only [o_cont, o_pure, o_nil, POp.ev, Opd.ev, gv, setD, List.set, xsj, xel, extV, List.getElem?_toArray, xgz, xgs]
 refine s_ret1 ?_
 simp +decide only [pfr, resV, resOne, resL, gv, xsj, xel, Option.bind_some, xms]
 refine ⟨⟨x, ok, rfl, fun h => ?_⟩, hx2.trans hx3⟩
 obtain ⟨r, b, r1, r2, r3, r4⟩ := hr h
 exact ⟨r, b, by omega, r2, r3, r4⟩
theorem goodP_all {p : List Tm} (h : goodP p = true) : p.length ≤ 20 ∧ ∀ t ∈ p, okTm t = true := by
 simp only [goodP, Bool.and_eq_true, decide_eq_true_eq] at h
 exact ⟨by omega, fun t ht => ((goodF_all h.1).1 t ht).1⟩
theorem bslice4 (H : AHeap) (t : Tm) : bsliceH H 1 z4 [(0, 4, tv t)] = some (.slice (some ⟨H.next, 0, some 0⟩) 1 1, H.alloc (tc t)) := by
 simp [bsliceH, fillV, cellsV, tv, tc]
set_option maxHeartbeats 1000000 in
theorem poly_ok (lim q m : Nat) (B : AHeap) (s : Value) (l : List Int) (n : Nat) (H : AHeap) (hl : lim ≤ B.next) (hs : SlB B s l) (hc : Cu B H q s m) (hm : m ≤ 10000000) (hn : n ≤ 4) :
   ACalls Tryz.prog lim n_spec_l1Cur_poly [Ptr q, .int .i64 n] H fun v H' => (∃ p b, H.next ≤ b ∧ b ≤ H'.next ∧ VecT H' b v p ∧ goodP p = true) ∧ Cu B H' q s (m + 600) ∧ Chg q H H' := by
 have hqH := hc.lt
 have hBq := hc.ge
 refine is_spec_l1Cur_poly.go rfl ?_
 unfold c_spec_l1Cur_poly
 refine s_reg ?_
 simp only [o_pure, o_nil, POp.ev, Opd.ev, env0, gu, setD, List.set, xsj, xel]
 refine s_reg ?_
 simp only [o_pure, o_nil, POp.ev, Opd.ev, setD, List.set, xsj, xel]
 refine s_reg ?_
 simp only [o_pure, o_callF, POp.ev, Opd.ev, gv, setD, List.map, xsj, xel]
 refine (pick_ok lim q m B s l 4 H hl hs hc (by omega) (by omega)).mono ?_
 rintro _ H1 ⟨⟨x, rfl, hx0, hx1⟩, hc1, hch1⟩
 have w1 : IntKind.i64.wrap (1 + x) = ((1 + x.toNat : Nat) : Int) := by
   rw [show 1 + x = ((1 + x.toNat : Nat) : Int) by omega]
   exact wr_nat (by omega)
 simp only [o_cont, o_pure, o_nil, POp.ev, Opd.ev, gv, setD, List.set, xsj, xel, binV, ne_eq, xnt, if_false, w1]
 refine s_cut (fun e' H' => ∃ k : Nat, k ≤ 24 ∧ Cu B H' q s (m + 4) ∧ Chg q H H' ∧ e' = [Ptr q, .int .i64 n, .slice none 0 0, .slice none 0 0, .int .i64 k, undef, undef, undef]) ?_ ?_
 · refine s_test1 ?_
   simp only [o_pure, o_callF, POp.ev, Opd.ev, gv, setD, List.map, xsj, xel]
   refine (one_ok lim q (m + 2) B s l 20 H1 hl hs hc1 (by omega) (by omega)).mono ?_
   rintro _ G1 ⟨⟨bb, rfl⟩, gc1, gch1⟩
   simp only [o_cont, o_nil, gv, setD]
   refine Test.split (fun hg => ?_) (fun hg => ?_)
   · refine s_reg1 ?_
     simp only [o_pure, o_nil, POp.ev, Opd.ev, setD, List.set, xsj, xel]
     simp +decide only [pqn]
     exact ⟨24, by omega, gc1, hch1.trans gch1, rfl⟩
   · refine s_skip1 ?_
     simp +decide only [pqn]
     exact ⟨1 + x.toNat, by omega, gc1, hch1.trans gch1, rfl⟩
 clear hc1 hch1
 rintro e' H1 ⟨many, hmany, hc1, hch1, rfl⟩
 refine s_assoc (s_reg ?_)
 simp only [o_pure, o_nil, POp.ev, Opd.ev, setD, List.set, xsj, xel]
 refine s_block ?_
 refine s_loop1 (fun j e' H' => ∃ (i b : Nat) (v x6 x7 : Value) (p : List Tm), i + j = many ∧ goodP p = true ∧ VecT H' b v p ∧ H.next ≤ b ∧ b ≤ H'.next ∧ Cu B H' q s (m + 4 + 24 * i) ∧ Chg q H H' ∧ e' = [Ptr q, .int .i64 n, .slice none 0 0, v, .int .i64 many, .int .i64 i, x6, x7]) many ⟨0, H.next, _, _, _, [], by omega, rfl, Vec.nil _ _ _, Nat.le_refl _, hch1.next, hc1, hch1, rfl⟩ ?_
 rintro j e' H' ⟨i, b, v, x6, x7, p, hij, hgp, hv, hb1, hb2, hcu, hch, rfl⟩
 have hnx := hch.next
 refine s_test ?_
 simp only [o_pure, o_nil, POp.ev, Opd.ev, gv, setD, xsj, xel, binV, ne_eq, xnt, if_false]
 refine Test.split (fun hlt => ?_) (fun hlt => ?_)
 · have hlt' : i < many := by have := of_decide_eq_true hlt; omega
   obtain ⟨p20, pok⟩ := goodP_all hgp
   refine s_skip1 ?_
   simp +decide only [pqn]
   refine s_block ?_
   refine s_reg ?_
   simp only [o_pure, o_callF, POp.ev, Opd.ev, gv, setD, List.map, xsj, xel]
   refine (term_ok lim q (m + 4 + 24 * i) B s l n H' hl hs hcu (by omega) hn).mono ?_
   rintro _ G1 ⟨⟨t, rfl, hT⟩, gc1, gch1⟩
   have gn1 := gch1.next
   have hv1 : VecT G1 b v p := Vec.chg hv gch1 (by omega)
   simp only [o_cont, o_eff, o_callF, Opd.ev, EOp.ev, gv, setD, List.map, xsj, xel, bslice4]
   have hvt : VecT (G1.alloc (tc t)) G1.next (.slice (some ⟨G1.next, 0, some 0⟩) 1 1) [t] := Vec.lit (by simp [tc])
   have gx2 := Ext.alloc G1 (tc t)
   have gnn : (G1.alloc (tc t)).next = G1.next + 1 := rfl
   have hcg1 := gc1.lt
   generalize G1.alloc (tc t) = G2 at hvt gx2 gnn ⊢
   refine (poAdd_ok lim v _ p [t] G2 (by omega) (VecT.ext hv1 gx2).sl hvt.sl (by simp; omega) (fun y hy => ok_exB (pok y hy)) (by intro y hy; simp at hy; subst hy; exact hT.exB)).mono ?_
   rintro _ G3 ⟨⟨y, ok, rfl, hr⟩, gx3⟩
   have gn3 := gx3.next
   simp only [o_cont, o_pure, o_nil, POp.ev, Opd.ev, gv, setD, List.set, xsj, xel, extV, List.getElem?_toArray, xgz, xgs]
   have gx13 := gx2.trans gx3
   have gc3 := gc1.of_ext gx13
   have gch3 := (hch.trans gch1).more gx13
   refine s_test1 ?_
   simp only [o_pure, o_nil, POp.ev, Opd.ev, gv, setD, xsj, xel]
   refine Test.split (fun hg => ?_) (fun hg => ?_)
   · obtain ⟨r, b', r1, r2, r3, r4⟩ := hr hg
     refine s_reg1 ?_
     simp only [o_pure, o_nil, POp.ev, Opd.ev, gv, setD, List.set, xsj, xel]
     simp +decide only [pqn, pbn]
     refine s_reg1 ?_
     simp only [o_pure, o_nil, POp.ev, Opd.ev, gv, setD, List.set, xsj, xel, binV, ne_eq, xnt, if_false, add1 (i := i) (by omega)]
     simp +decide only [pqn]
     exact Round.mk (j - 1) (by omega) ⟨i + 1, b', y, _, _, r, by omega, r4, r3, by omega, r2, gc3.le (by omega), gch3, rfl⟩
   · refine s_skip1 ?_
     simp +decide only [pqn, pbn]
     refine s_reg1 ?_
     simp only [o_pure, o_nil, POp.ev, Opd.ev, gv, setD, List.set, xsj, xel, binV, ne_eq, xnt, if_false, add1 (i := i) (by omega)]
     simp +decide only [pqn]
     exact Round.mk (j - 1) (by omega) ⟨i + 1, b, v, _, _, p, by omega, hgp, VecT.ext hv1 gx13, hb1, by omega, gc3.le (by omega), gch3, rfl⟩
 refine s_exit1 ?_
 simp +decide only [pqn, pqe, pbe, reduceIte]
 have hi : i = many := by have := of_decide_eq_false hlt; omega
 refine s_test ?_
 simp only [o_pure, o_callF, POp.ev, Opd.ev, gv, setD, List.map, xsj, xel]
 refine (one_ok lim q (m + 4 + 24 * i) B s l 24 H' hl hs hcu (by omega) (by omega)).mono ?_
 rintro _ G1 ⟨⟨bb, rfl⟩, gc1, gch1⟩
 have gn1 := gch1.next
 simp only [o_cont, o_nil, gv, setD]
 refine Test.split (fun hg => ?_) (fun hg => ?_)
 · refine s_reg ?_
   simp only [o_pure, o_nil, POp.ev, Opd.ev, setD, List.set, xsj, xel]
   refine s_ret1 ?_
   simp +decide only [pqr, pfr, resV, resOne, gv, xsj, xel]
   exact ⟨⟨[], H.next, Nat.le_refl _, by omega, Vec.nil _ _ _, rfl⟩, gc1.le (by omega), hch.trans gch1⟩
 · refine s_skip1 ?_
   simp +decide only [pqn]
   refine s_reg ?_
   simp only [o_pure, o_nil, POp.ev, Opd.ev, gv, setD, List.set, xsj, xel]
   refine s_ret1 ?_
   simp +decide only [pfr, resV, resOne, gv, xsj, xel]
   exact ⟨⟨p, b, hb1, by omega, Vec.chg hv gch1 (by omega), hgp⟩, gc1.le (by omega), hch.trans gch1⟩
theorem GrowX.pushQ {lim q : Nat} {H H2 : AHeap} {lo b c : Nat} {vs : List Value} {bs : List Nat} {v s : Value} {ss : List (List Tm)} {p : List Tm} (h : GrowX H lo b vs bs v ss) (hlim : lim ≤ lo) (hq : q < lo) (hloH : lo ≤ H.next) (hx : Chg q H H2)
   (hc1 : H.next ≤ c) (hc2 : c ≤ H2.next) (hp : VecT H2 c s p) (hn : ss.length ≤ 1000000) :
   ∃ v' H3 b' b0, appendH lim (H2.alloc [s]) 1 24 v (.slice (some ⟨H2.next, 0, some 0⟩) 1 1) = some (v', H3) ∧ GrowX H3 lo b' (vs ++ [s]) (bs ++ [c]) v' (ss ++ [p]) ∧ lo ≤ b0 ∧ Chg b0 H2 H3 := by
 obtain ⟨h1, h2, hnil, h3, h4, h5, h6, h7, h8⟩ := h
 have hnx := hx.next
 have hclen := h1.clen
 obtain ⟨b0, hv0, hb0, hbc, hbn, hbl⟩ : ∃ b0, Vec H2 b0 v ss.length 1 vs ∧ lo ≤ b0 ∧ b0 ≠ c ∧ b0 ∉ bs ∧ (b0 < H.next ∨ H2.next < b0) := by
   by_cases hs : ss = []
   · subst hs
     have hv := hnil rfl
     subst hv
     have hvs : vs = [] := List.length_eq_zero_iff.1 (by simpa using hclen)
     subst hvs
     refine ⟨H2.next + 1, Vec.nil _ _ _, by omega, by omega, fun hm => ?_, .inr (by omega)⟩
     have := h7 _ hm
     omega
   · have := h4 hs
     exact ⟨b, h1.chg hx (by omega), h3, by omega, h6, .inl this⟩
 obtain ⟨v', H3, b', g1, g2, g3, g4, g5, g6⟩ := push1 hv0 (lim := lim) s (by omega) (bytes := 24) (by omega)
 have hbl' : b' = b0 ∨ H2.next < b' := g3
 refine ⟨v', H3, b', b0, g1, ⟨by rw [List.length_append]; exact g2, by simp [h2], by simp, by omega, fun _ => g4, ?_, ?_, ?_, ?_⟩, hb0, g5⟩
 · refine List.nodup_append.2 ⟨h5, by simp, ?_⟩
   intro x hx' y hy
   simp at hy
   subst hy
   have := h7 x hx'
   omega
 · intro hm
   rcases List.mem_append.1 hm with hm | hm
   · rcases hbl' with rfl | hbl'
     · exact hbn hm
     · have := h7 _ hm
       omega
   · simp at hm
     omega
 · intro c' hc'
   rcases List.mem_append.1 hc' with hm | hm
   · have := h7 _ hm
     omega
   · simp at hm
     omega
 · intro j r hq'
   by_cases hj : j < ss.length
   · rw [List.getElem?_append_left hj] at hq'
     obtain ⟨s', c', q1, q2, q3⟩ := h8 j r hq'
     have hm := List.mem_of_getElem? q2
     have hlo := (h7 c' hm).1
     refine ⟨s', c', by rw [List.getElem?_append_left (by omega)]; exact q1, by rw [List.getElem?_append_left (by omega)]; exact q2, VecT.chg (VecT.chg q3 hx (by omega)) g5 (fun e => hbn (e ▸ hm))⟩
   · rw [List.getElem?_append_right (by omega)] at hq'
     have hji : j = ss.length := by
       have := (List.getElem?_eq_some_iff.1 hq').1
       simp at this; omega
     subst hji
     simp at hq'
     subst hq'
     exact ⟨s, c, by rw [List.getElem?_append_right (by omega)]; simp [hclen], by rw [List.getElem?_append_right (by omega)]; simp [h2], VecT.chg hp g5 (fun e => hbc e.symm)⟩
def SysQ (q : Nat) (H : AHeap) (v : Value) (ss : List (List Tm)) : Prop := ∃ b vs, b ≠ q ∧ Vec H b v ss.length 1 vs ∧ ∀ (i : Nat) (p : List Tm), ss[i]? = some p → ∃ s c, vs[i]? = some s ∧ c ≠ q ∧ VecT H c s p
theorem SysQ.chg {q : Nat} {H H' : AHeap} {v : Value} {ss : List (List Tm)} (h : SysQ q H v ss) (hc : Chg q H H') : SysQ q H' v ss := by
 obtain ⟨b, vs, h1, h2, h3⟩ := h
 refine ⟨b, vs, h1, h2.chg hc h1, fun i p hp => ?_⟩
 obtain ⟨s, c, g1, g2, g3⟩ := h3 i p hp
 exact ⟨s, c, g1, g2, VecT.chg g3 hc g2⟩
theorem SysQ.slss {q : Nat} {H : AHeap} {v : Value} {ss : List (List Tm)} (h : SysQ q H v ss) : SlSS H v ss := by
 obtain ⟨b, vs, h1, h2, h3⟩ := h
 refine ⟨vs, h2.sl, fun i p hp => ?_⟩
 obtain ⟨s, c, g1, g2, g3⟩ := h3 i p hp
 exact ⟨s, g1, Vec.sl g3⟩
theorem GrowX.sysQ {q : Nat} {H : AHeap} {lo b : Nat} {vs : List Value} {bs : List Nat} {v : Value} {ss : List (List Tm)} (h : GrowX H lo b vs bs v ss) (hq : q < lo) : SysQ q H v ss := by
 obtain ⟨h1, h2, hnil, h3, h4, h5, h6, h7, h8⟩ := h
 refine ⟨b, vs, by omega, h1, fun i p hp => ?_⟩
 obtain ⟨s, c, g1, g2, g3⟩ := h8 i p hp
 have := h7 c (List.mem_of_getElem? g2)
 exact ⟨s, c, g1, by omega, g3⟩
def SmS (ss : List (List Tm)) : Prop := ss.length ≤ 1000 ∧ ∀ p ∈ ss, p.length ≤ 1000
theorem bsliceS {H : AHeap} {v : Value} (z : Value) (hv : cellsV v = some [v]) : bsliceH H 1 [z] [(0, 1, v)] = some (.slice (some ⟨H.next, 0, some 0⟩) 1 1, H.alloc [v]) := bsliceV H z hv
theorem system_ok (lim q m : Nat) (B : AHeap) (s : Value) (l : List Int) (n : Nat) (H : AHeap) (hl : lim ≤ B.next) (hs : SlB B s l) (hc : Cu B H q s m) (hm : m ≤ 1000000) (hn : n ≤ 4) :
   ACalls Tryz.prog lim n_spec_l1Cur_system [Ptr q, .int .i64 n] H fun v H' => (∃ b vs bs ss, GrowX H' H.next b vs bs v ss ∧ ss.length = n ∧ SmS ss) ∧ Cu B H' q s (m + 2400) ∧ Chg q H H' := by
 have hqH := hc.lt
 have hBq := hc.ge
 refine is_spec_l1Cur_system.go rfl ?_
 unfold c_spec_l1Cur_system
 refine s_reg ?_
 simp only [o_pure, o_nil, POp.ev, Opd.ev, env0, gu, setD, List.set, xsj, xel]
 refine s_reg ?_
 simp only [o_pure, o_nil, POp.ev, Opd.ev, setD, List.set, xsj, xel]
 refine s_block ?_
 refine s_loop1 (fun j e' H' => ∃ (b : Nat) (vs : List Value) (bs : List Nat) (v : Value) (ss : List (List Tm)), ss.length + j = n ∧ SmS ss ∧ GrowX H' H.next b vs bs v ss ∧ Cu B H' q s (m + 600 * ss.length) ∧ Chg q H H' ∧ e' = [Ptr q, .int .i64 n, .slice none 0 0, v]) n ⟨H.next, [], [], _, [], by simp, ⟨by simp, by simp⟩, GrowX.nil' _, hc, Chg.refl _ _, rfl⟩ ?_
 rintro j e' H' ⟨b, vs, bs, v, ss, hj, hsm, hG, hcu, hch, rfl⟩
 have hnx := hch.next
 have hlen : lenV v = some (.int .i64 ss.length) := hG.vec.lenV
 refine s_test ?_
 simp only [o_pure, o_nil, POp.ev, Opd.ev, gv, setD, xsj, xel, binV, ne_eq, xnt, if_false, hlen]
 refine Test.split (fun hlt => ?_) (fun hlt => ?_)
 · have hlt' : ss.length < n := by have := of_decide_eq_true hlt; omega
   refine s_skip1 ?_
   simp +decide only [pqn]
   refine s_block1 ?_
   refine s_reg1 ?_
   simp only [o_pure, o_callF, POp.ev, Opd.ev, gv, setD, List.map, xsj, xel]
   refine (poly_ok lim q (m + 600 * ss.length) B s l n H' hl hs hcu (by omega) hn).mono ?_
   rintro v1 H2 ⟨⟨p, c, p1, p2, p3, p4⟩, hc2, hch2⟩
   obtain ⟨p20, _⟩ := goodP_all p4
   obtain ⟨v', H3, b', b0, g1, g2, g3, g4⟩ := hG.pushQ (lim := lim) (q := q) (by omega) (by omega) hnx hch2 p1 p2 p3 (by have := hsm.1; omega)
   simp only [o_cont, o_pure, o_eff, o_nil, POp.ev, Opd.ev, EOp.ev, gv, setD, List.set, List.map, xsj, xel, bsliceS _ (Vec.cellsV p3), g1]
   simp +decide only [pqn, pbn]
   refine Round.mk (j - 1) (by omega) ⟨b', _, _, v', ss ++ [p], by simp; omega, ⟨by have := hsm.1; simp; omega, ?_⟩, g2, ?_, Chg.above (hch.trans hch2) g4 g3, rfl⟩
   · intro y hy
     rcases List.mem_append.1 hy with hy | hy
     · exact hsm.2 y hy
     · simp at hy; subst hy; omega
   · refine Cu.le (hc2.chg g4 (by omega) (by omega)) ?_
     simp
     omega
 refine s_exit1 ?_
 simp +decide only [pqn, pqe, pbe, reduceIte]
 have hi : ss.length = n := by have := of_decide_eq_false hlt; omega
 refine s_reg ?_
 simp only [o_pure, o_nil, POp.ev, Opd.ev, gv, setD, List.set, xsj, xel]
 refine s_ret1 ?_
 simp +decide only [pfr, resV, resOne, gv, xsj, xel]
 exact ⟨⟨b, vs, bs, ss, hG, hi, hsm⟩, hcu.le (by omega), hch⟩
theorem bslice4' (H : AHeap) (t : Tm) : bsliceH H 1 z4 [(0, 4, .agg (tc t).toArray)] = some (.slice (some ⟨H.next, 0, some 0⟩) 1 1, H.alloc (tc t)) := bslice4 H t
theorem pushTQ {lim : Nat} {H : AHeap} {b : Nat} {v : Value} {p : List Tm} (h : VecT H b v p) (t : Tm) (hl : lim ≤ b) (hn : p.length ≤ 10000) :
   ∃ v' H' b', appendH lim (H.alloc (tc t)) 4 32 v (.slice (some ⟨H.next, 0, some 0⟩) 1 1) = some (v', H') ∧ VecT H' b' v' (p ++ [t]) ∧ (b' = b ∨ H.next ≤ b' ∧ b' ≤ H'.next) ∧ Chg b H H' := by
 have hx := Ext.alloc H (tc t)
 have hvt : VecT (H.alloc (tc t)) H.next (.slice (some ⟨H.next, 0, some 0⟩) 1 1) [t] := Vec.lit (by simp [tc])
 obtain ⟨v', H', b', h1, h2, h3, h4⟩ := appendT2 (lim := lim) (VecT.ext h hx) hvt.sl hl (by simp; omega)
 have hnx := hx.next
 exact ⟨v', H', b', h1, h2, h3.imp id fun h => by omega, (Chg.of_ext hx).trans h4⟩
set_option maxHeartbeats 2000000 in
theorem anyPoly_ok (lim q m : Nat) (B : AHeap) (s : Value) (l : List Int) (n : Nat) (H : AHeap) (hl : lim ≤ B.next) (hs : SlB B s l) (hc : Cu B H q s m) (hm : m ≤ 1000000) (hn : n ≤ 4) :
   ACalls Tryz.prog lim n_spec_l1Cur_anyPoly [Ptr q, .int .i64 n] H fun v H' => (∃ p b, H.next ≤ b ∧ b ≤ H'.next ∧ VecT H' b v p ∧ p.length ≤ 1000) ∧ Cu B H' q s (m + 1400) ∧ Chg q H H' := by
 have hqH := hc.lt
 have hBq := hc.ge
 refine is_spec_l1Cur_anyPoly.go rfl ?_
 unfold c_spec_l1Cur_anyPoly
 refine s_reg ?_
 simp only [o_pure, o_nil, POp.ev, Opd.ev, env0, gu, setD, List.set, xsj, xel]
 refine s_reg ?_
 simp only [o_pure, o_callF, POp.ev, Opd.ev, gv, setD, List.map, xsj, xel]
 refine (poly_ok lim q m B s l n H hl hs hc (by omega) hn).mono ?_
 rintro v H1 ⟨⟨p, b, hb1, hb2, hv, hgp⟩, hc1, hch1⟩
 obtain ⟨p20, _⟩ := goodP_all hgp
 have hn1 := hch1.next
 simp only [o_cont, o_pure, o_nil, POp.ev, Opd.ev, gv, setD, List.set, xsj, xel]
 refine s_assoc (s_reg ?_)
 simp only [o_pure, o_callF, POp.ev, Opd.ev, gv, setD, List.map, xsj, xel]
 refine (pick_ok lim q (m + 600) B s l 40 H1 hl hs hc1 (by omega) (by omega)).mono ?_
 rintro _ H2 ⟨⟨k, rfl, hk0, hk1⟩, hc2, hch2⟩
 have hn2 := hch2.next
 have hv2 : VecT H2 b v p := Vec.chg hv hch2 (by omega)
 have hch02 := hch1.trans hch2
 simp only [o_cont, o_nil, setD, List.set]
 refine s_cut (fun e' H' => ∃ (p' : List Tm) (b' : Nat) (v' x4 x5 x6 : Value), VecT H' b' v' p' ∧ H.next ≤ b' ∧ b' ≤ H'.next ∧ p'.length ≤ 1000 ∧ Cu B H' q s (m + 1400) ∧ Chg q H H' ∧ e' = [Ptr q, .int .i64 n, .slice none 0 0, v', x4, x5, x6, .int .i64 k]) ?_ ?_
 · refine s_block1 ?_
   refine s_test1_same (k == 0) ?_ (fun hg => ?_) (fun hg => ?_)
   · simp only [o_pure, o_nil, POp.ev, Opd.ev, gv, setD, xsj, xel, binV, ne_eq, xnt, if_false]
     simp
   · have f2 : fillV [.int .i64 0, .int .i64 0, .int .i64 0, .int .i64 0] [(0, 1, .int .i64 0), (1, 1, .int .i64 1), (2, 1, .int .i64 1001), (3, 1, .int .i64 (-1001))] = some (([0, 1, 1001, -1001] : List Int).map vi) := by simp [fillV, cellsV, putL]
     refine s_reg1 ?_
     simp only [o_pure, o_eff, o_callF, POp.ev, Opd.ev, EOp.ev, gv, setD, List.map, xsj, xel, bsliceL f2]
     refine (among_lit lim q (m + 602) B s l [0, 1, 1001, -1001] H2 hl hs hc2 (by omega) (by simp) (by simp)).mono ?_
     rintro _ H3 ⟨⟨c, _, rfl⟩, hc3, hch3⟩
     have hn3 := hch3.next
     have hv3 : VecT H3 b v p := Vec.chg hv2 hch3 (by omega)
     have hf : fillV z4 [(0, 1, .int .i64 c), (1, 1, .int .i64 4)] = some (tc ⟨c, 4, 0, 0⟩) := by simp [fillV, cellsV, tc]
     obtain ⟨v', H4, b', g1, g2, g3, g4⟩ := pushTQ (lim := lim) hv3 ⟨c, 4, 0, 0⟩ (by omega) (by omega)
     have hn4 := g4.next
     simp only [o_cont, o_pure, o_eff, o_nil, POp.ev, Opd.ev, EOp.ev, gv, setD, List.set, List.map, xms, xsj, xel, hf, bslice4', g1]
     simp +decide only [pqn, pbn]
     exact ⟨p ++ [_], b', v', _, _, _, g2, by omega, by omega, by simp; omega, Cu.le (hc3.chg g4 (by omega) (by omega)) (by omega), Chg.above (hch02.trans hch3) g4 hb1, rfl⟩
   refine s_test1_same (k == 1) ?_ (fun hg => ?_) (fun hg => ?_)
   · simp only [o_pure, o_nil, POp.ev, Opd.ev, gv, setD, xsj, xel, binV, ne_eq, xnt, if_false]
     simp
   · have f2 : fillV [.int .i64 0, .int .i64 0, .int .i64 0] [(0, 1, .int .i64 5), (1, 1, .int .i64 (-1)), (2, 1, .int .i64 4611686018427387904)] = some (([5, -1, 4611686018427387904] : List Int).map vi) := by simp [fillV, cellsV, putL]
     have f3 : fillV [.int .i64 0, .int .i64 0, .int .i64 0] [(0, 1, .int .i64 0), (1, 1, .int .i64 (-1)), (2, 1, .int .i64 4611686018427387904)] = some (([0, -1, 4611686018427387904] : List Int).map vi) := by simp [fillV, cellsV, putL]
     refine s_reg1 ?_
     simp only [o_pure, o_eff, o_callF, POp.ev, Opd.ev, EOp.ev, gv, setD, List.map, xsj, xel, bsliceL f2]
     refine (among_lit lim q (m + 602) B s l [5, -1, 4611686018427387904] H2 hl hs hc2 (by omega) (by simp) (by simp)).mono ?_
     rintro _ H3 ⟨⟨c, _, rfl⟩, hc3, hch3⟩
     have hn3 := hch3.next
     have hv3 : VecT H3 b v p := Vec.chg hv2 hch3 (by omega)
     simp only [o_cont, o_pure, o_eff, o_callF, POp.ev, Opd.ev, EOp.ev, gv, setD, List.map, xsj, xel, bsliceL f3]
     refine (among_lit lim q (m + 602 + 2) B s l [0, -1, 4611686018427387904] H3 hl hs hc3 (by omega) (by simp) (by simp)).mono ?_
     rintro _ H4 ⟨⟨d, _, rfl⟩, hc4, hch4⟩
     have hn4 := hch4.next
     have hv4 : VecT H4 b v p := Vec.chg hv3 hch4 (by omega)
     have hf : fillV z4 [(0, 1, .int .i64 1), (1, 1, .int .i64 c), (2, 1, .int .i64 d)] = some (tc ⟨1, c, d, 0⟩) := by simp [fillV, cellsV, tc]
     obtain ⟨v', H5, b', g1, g2, g3, g4⟩ := pushTQ (lim := lim) hv4 ⟨1, c, d, 0⟩ (by omega) (by omega)
     have hn5 := g4.next
     simp only [o_cont, o_pure, o_eff, o_nil, POp.ev, Opd.ev, EOp.ev, gv, setD, List.set, List.map, xms, xsj, xel, hf, bslice4', g1]
     simp +decide only [pqn, pbn]
     exact ⟨p ++ [_], b', v', _, _, _, g2, by omega, by omega, by simp; omega, Cu.le (hc4.chg g4 (by omega) (by omega)) (by omega), Chg.above (hch02.trans (hch3.trans hch4)) g4 hb1, rfl⟩
   refine s_test1_same (k == 2) ?_ (fun hg => ?_) (fun hg => ?_)
   · simp only [o_pure, o_nil, POp.ev, Opd.ev, gv, setD, xsj, xel, binV, ne_eq, xnt, if_false]
     simp
   · obtain ⟨v', H3, b', g1, g2, g3, g4⟩ := appendT2 (lim := lim) hv2 hv2.sl (by omega) (by omega)
     have hn3 := g4.next
     refine s_reg1 ?_
     simp only [o_pure, o_eff, o_nil, POp.ev, Opd.ev, EOp.ev, gv, setD, List.set, xsj, xel, g1]
     simp +decide only [pqn, pbn]
     exact ⟨p ++ p, b', v', _, _, _, g2, by omega, by omega, by simp; omega, Cu.le (hc2.chg g4 (by omega) (by omega)) (by omega), Chg.above hch02 g4 hb1, rfl⟩
   refine s_test1_same (k == 3) ?_ (fun hg => ?_) (fun hg => ?_)
   · simp only [o_pure, o_nil, POp.ev, Opd.ev, gv, setD, xsj, xel, binV, ne_eq, xnt, if_false]
     simp
   · clear hv hv2 hgp p20
     refine s_reg ?_
     simp only [o_pure, o_nil, POp.ev, Opd.ev, setD, List.set, xsj, xel]
     refine s_reg ?_
     simp only [o_pure, o_nil, POp.ev, Opd.ev, setD, List.set, xsj, xel]
     refine s_block1 ?_
     refine s_loop1 (fun j e' H' => ∃ (x b : Nat) (v x5 x6 : Value) (p : List Tm), x + j = 5 ∧ p.length ≤ 1000 ∧ VecT H' b v p ∧ H.next ≤ b ∧ b ≤ H'.next ∧ Cu B H' q s (m + 602 + 100 * x) ∧ Chg q H H' ∧ e' = [Ptr q, .int .i64 n, .slice none 0 0, v, .int .i64 x, x5, x6, .int .i64 k]) 5 ⟨0, H.next, _, _, _, [], by omega, by simp, Vec.nil _ _ _, Nat.le_refl _, by omega, hc2, hch02, rfl⟩ ?_
     clear hc2 hch02 hb1 hb2 hn1 hn2 hch1 hch2 hc1
     rintro j e' H2 ⟨x, b, v, x5, x6, p, hxj, hpl, hv, hb1, hb2, hcu, hch, rfl⟩
     refine s_test ?_
     simp only [o_pure, o_nil, POp.ev, Opd.ev, gv, setD, xsj, xel, binV, ne_eq, xnt, if_false]
     refine Test.split (fun hlt => ?_) (fun hlt => ?_)
     · have hx4 : x ≤ 4 := by have := of_decide_eq_true hlt; omega
       refine s_skip1 ?_
       simp +decide only [pqn]
       refine s_block ?_
       refine s_reg ?_
       simp only [o_pure, o_nil, POp.ev, Opd.ev, setD, List.set, xsj, xel]
       refine s_block1 ?_
       refine s_loop1 (fun j2 e' H' => ∃ (y b : Nat) (v x6 : Value) (p : List Tm), x + y + j2 = 5 ∧ p.length ≤ 1000 ∧ VecT H' b v p ∧ H.next ≤ b ∧ b ≤ H'.next ∧ Cu B H' q s (m + 602 + 100 * x + 15 * y) ∧ Chg q H H' ∧ e' = [Ptr q, .int .i64 n, .slice none 0 0, v, .int .i64 x, .int .i64 y, x6, .int .i64 k]) (5 - x) ⟨0, b, _, _, p, by omega, hpl, hv, hb1, hb2, hcu, hch, rfl⟩ ?_
       clear hcu hch hb1 hb2 hv hpl
       rintro j2 e' H2 ⟨y, b, v, x6, p, hyj, hpl, hv, hb1, hb2, hcu, hch, rfl⟩
       refine s_test ?_
       simp only [o_pure, o_nil, POp.ev, Opd.ev, gv, setD, xsj, xel, binV, ne_eq, xnt, if_false, addN (i := x) (j := y) (by omega)]
       refine Test.split (fun hlt2 => ?_) (fun hlt2 => ?_)
       · have hy4 : x + y ≤ 4 := by have := of_decide_eq_true hlt2; omega
         refine s_skip1 ?_
         simp +decide only [pqn]
         refine s_block ?_
         refine s_reg ?_
         simp only [o_pure, o_nil, POp.ev, Opd.ev, setD, List.set, xsj, xel]
         refine s_block1 ?_
         refine s_loop1 (fun j3 e' H' => ∃ (z b : Nat) (v : Value) (p : List Tm), x + y + z + j3 = 5 ∧ p.length ≤ 1000 ∧ VecT H' b v p ∧ H.next ≤ b ∧ b ≤ H'.next ∧ Cu B H' q s (m + 602 + 100 * x + 15 * y + 2 * z) ∧ Chg q H H' ∧ e' = [Ptr q, .int .i64 n, .slice none 0 0, v, .int .i64 x, .int .i64 y, .int .i64 z, .int .i64 k]) (5 - x - y) ⟨0, b, _, p, by omega, hpl, hv, hb1, hb2, hcu, hch, rfl⟩ ?_
         clear hcu hch hb1 hb2 hv hpl
         rintro j3 e' H2 ⟨z, b, v, p, hzj, hpl, hv, hb1, hb2, hcu, hch, rfl⟩
         have hn2 := hch.next
         refine s_test ?_
         cases h5 : decide (((x + y + z : Nat) : Int) ≤ 4)
         · simp only [o_pure, o_guard, gk_ft, o_nil, POp.ev, Opd.ev, gv, setD, xsj, xel, pickV, binV, ne_eq, xnt, if_false, addN (i := x) (j := y) (by omega), addN (i := x + y) (j := z) (by omega), h5]
           refine Test.false_ (s_exit1 ?_)
           simp +decide only [pqn, pqe, pbn, pbe, reduceIte]
           refine s_reg1 ?_
           simp only [o_pure, o_nil, POp.ev, Opd.ev, gv, setD, List.set, xsj, xel, binV, ne_eq, xnt, if_false, add1 (i := y) (by omega)]
           simp +decide only [pqn]
           exact Round.mk (j2 - 1) (by omega) ⟨y + 1, b, v, _, p, by omega, hpl, hv, hb1, hb2, hcu.le (by omega), hch, rfl⟩
         · have hz4 : x + y + z ≤ 4 := by have := of_decide_eq_true h5; omega
           have hlen : lenV v = some (.int .i64 p.length) := hv.lenV
           simp only [o_pure, o_callF, o_guard, gk_tt, POp.ev, Opd.ev, gv, setD, List.map, xsj, xel, binV, ne_eq, xnt, if_false, addN (i := x) (j := y) (by omega), addN (i := x + y) (j := z) (by omega), h5, hlen]
           refine (pick_ok lim q (m + 602 + 100 * x + 15 * y + 2 * z) B s l 2 H2 hl hs hcu (by omega) (by omega)).mono ?_
           rintro _ H3 ⟨⟨w, rfl, hw0, hw1⟩, hc3, hch3⟩
           have hn3 := hch3.next
           have hv3 : VecT H3 b v p := Vec.chg hv hch3 (by omega)
           have ww : IntKind.i64.wrap (20 + w) = 20 + w := wr_id (by omega) (by omega)
           simp only [o_cont, o_pure, o_guard, gk_tt, o_nil, POp.ev, Opd.ev, gv, setD, xsj, xel, pickV, binV, ne_eq, xnt, if_false, ww]
           refine Test.split (fun hlt4 => ?_) (fun hlt4 => ?_)
           · have hpl2 : p.length ≤ 21 := by have := of_decide_eq_true hlt4; omega
             refine s_skip1 ?_
             simp +decide only [pqn]
             have hf : fillV z4 [(0, 1, .int .i64 1), (1, 1, .int .i64 x), (2, 1, .int .i64 y), (3, 1, .int .i64 z)] = some (tc ⟨1, x, y, z⟩) := by simp [fillV, cellsV, tc]
             obtain ⟨v', H5, b', g1, g2, g3, g4⟩ := pushTQ (lim := lim) hv3 ⟨1, x, y, z⟩ (by omega) (by omega)
             have hn5 := g4.next
             refine s_block1 ?_
             refine s_reg1 ?_
             simp only [o_pure, o_eff, o_nil, POp.ev, Opd.ev, EOp.ev, gv, setD, List.set, List.map, xms, xsj, xel, hf, bslice4', g1]
             simp +decide only [pqn, pbn]
             refine s_reg1 ?_
             simp only [o_pure, o_nil, POp.ev, Opd.ev, gv, setD, List.set, xsj, xel, binV, ne_eq, xnt, if_false, add1 (i := z) (by omega)]
             simp +decide only [pqn]
             exact Round.mk (j3 - 1) (by omega) ⟨z + 1, b', v', p ++ [_], by omega, by simp; omega, g2, by omega, by omega, Cu.le (hc3.chg g4 (by omega) (by omega)) (by omega), Chg.above (hch.trans hch3) g4 hb1, rfl⟩
           · refine s_exit1 ?_
             simp +decide only [pqn, pqe, pbn, pbe, reduceIte]
             refine s_reg1 ?_
             simp only [o_pure, o_nil, POp.ev, Opd.ev, gv, setD, List.set, xsj, xel, binV, ne_eq, xnt, if_false, add1 (i := y) (by omega)]
             simp +decide only [pqn]
             exact Round.mk (j2 - 1) (by omega) ⟨y + 1, b, v, _, p, by omega, hpl, hv3, hb1, by omega, hc3.le (by omega), hch.trans hch3, rfl⟩
       · refine s_exit1 ?_
         simp +decide only [pqn, pqe, pbn, pbe, reduceIte]
         refine s_reg1 ?_
         simp only [o_pure, o_nil, POp.ev, Opd.ev, gv, setD, List.set, xsj, xel, binV, ne_eq, xnt, if_false, add1 (i := x) (by omega)]
         simp +decide only [pqn]
         exact Round.mk (j - 1) (by omega) ⟨x + 1, b, v, _, _, p, by omega, hpl, hv, hb1, hb2, hcu.le (by omega), hch, rfl⟩
     · refine s_exit1 ?_
       simp +decide only [pqn, pqe, pbn, pbe, reduceIte]
       exact ⟨p, b, v, _, _, _, hv, hb1, hb2, hpl, hcu.le (by omega), hch, rfl⟩
   refine s_skip1 ?_
   simp +decide only [pqn, pbn]
   exact ⟨p, b, v, _, _, _, hv2, hb1, by omega, by omega, hc2.le (by omega), hch02, rfl⟩
 rintro e' H' ⟨p', b', v', x4, x5, x6, g1, g2, g3, g4, g5, g6, rfl⟩
 refine s_reg ?_
 simp only [o_pure, o_nil, POp.ev, Opd.ev, gv, setD, List.set, xsj, xel]
 refine s_ret1 ?_
 simp +decide only [pfr, resV, resOne, gv, xsj, xel]
 exact ⟨⟨p', b', g2, g3, g1, g4⟩, g5, g6⟩
theorem anySystem_ok (lim q m : Nat) (B : AHeap) (s : Value) (l : List Int) (H : AHeap) (hl : lim ≤ B.next) (hs : SlB B s l) (hc : Cu B H q s m) (hm : m ≤ 100000) :
   ACalls Tryz.prog lim n_spec_l1Cur_anySystem [Ptr q] H fun v H' => (∃ ss, SysQ q H' v ss ∧ SmS ss) ∧ Cu B H' q s (m + 6000) ∧ Chg q H H' := by
 have hqH := hc.lt
 have hBq := hc.ge
 refine is_spec_l1Cur_anySystem.go rfl ?_
 unfold c_spec_l1Cur_anySystem
 refine s_reg ?_
 simp only [o_pure, o_nil, POp.ev, Opd.ev, env0, gu, setD, List.set, xsj, xel]
 have f2 : fillV [.int .i64 0, .int .i64 0, .int .i64 0, .int .i64 0, .int .i64 0] [(0, 1, .int .i64 1), (1, 1, .int .i64 2), (2, 1, .int .i64 2), (3, 1, .int .i64 2), (4, 1, .int .i64 3)] = some (([1, 2, 2, 2, 3] : List Int).map vi) := by simp [fillV, cellsV, putL]
 refine s_reg ?_
 simp only [o_pure, o_eff, o_callF, POp.ev, Opd.ev, EOp.ev, gv, setD, List.map, xsj, xel, bsliceL f2]
 refine (among_lit lim q m B s l [1, 2, 2, 2, 3] H hl hs hc (by omega) (by simp) (by simp)).mono ?_
 rintro _ H1 ⟨⟨n, hnm, rfl⟩, hc1, hch1⟩
 obtain ⟨n, rfl, hn1, hn3⟩ : ∃ n' : Nat, n = n' ∧ 1 ≤ n' ∧ n' ≤ 3 := by
   simp at hnm
   exact ⟨n.toNat, by omega, by omega, by omega⟩
 simp only [o_cont, o_pure, o_nil, POp.ev, Opd.ev, gv, setD, List.set, xsj, xel]
 refine s_reg ?_
 simp only [o_pure, o_callF, POp.ev, Opd.ev, gv, setD, List.map, xsj, xel]
 refine (system_ok lim q (m + 2) B s l n H1 hl hs hc1 (by omega) (by omega)).mono ?_
 rintro v H2 ⟨⟨b, vs, bs, ss, hG, hlen, hsm⟩, hc2, hch2⟩
 have hl1 := hc1.lt
 simp only [o_cont, o_pure, o_nil, POp.ev, Opd.ev, gv, setD, List.set, xsj, xel]
 refine s_assoc (s_reg ?_)
 simp only [o_pure, o_callF, POp.ev, Opd.ev, gv, setD, List.map, xsj, xel]
 refine (pick_ok lim q (m + 2402) B s l 30 H2 hl hs hc2 (by omega) (by omega)).mono ?_
 rintro _ H3 ⟨⟨k, rfl, hk0, hk1⟩, hc3, hch3⟩
 have hch03 := hch1.trans (hch2.trans hch3)
 have hn1' := hch1.next
 have hn2' := hch2.next
 have hn3' := hch3.next
 simp only [o_cont, o_nil, setD, List.set]
 refine s_block ?_
 refine s_test1_same (k == 0) ?_ (fun hg => ?_) (fun hg => ?_)
 · simp only [o_pure, o_nil, POp.ev, Opd.ev, gv, setD, xsj, xel, binV, ne_eq, xnt, if_false]
   simp
 · refine s_reg1 ?_
   simp only [o_pure, o_callF, POp.ev, Opd.ev, gv, setD, List.map, xsj, xel]
   refine (pick_ok lim q (m + 2404) B s l n H3 hl hs hc3 (by omega) (by omega)).mono ?_
   rintro _ H4 ⟨⟨i, rfl, hi0, hi1⟩, hc4, hch4⟩
   simp only [o_cont, o_pure, o_callF, POp.ev, Opd.ev, gv, setD, List.map, xsj, xel]
   refine (anyPoly_ok lim q (m + 2406) B s l 3 H4 hl hs hc4 (by omega) (by omega)).mono ?_
   rintro v5 H5 ⟨⟨p, c, hpc1, hpc2, hpv, hpl⟩, hc5, hch5⟩
   have hn4' := hch4.next
   have hn5' := hch5.next
   have hlow := hG.low
   have hbne : b ≠ q := by omega
   have hbH : b < H2.next := hG.hi (by intro h; rw [h] at hlen; simp at hlen; omega)
   obtain ⟨i, rfl⟩ : ∃ i' : Nat, i = i' := ⟨i.toNat, by omega⟩
   have hilt : i < ss.length := by omega
   have hch35 := hch3.trans (hch4.trans hch5)
   have hvec : Vec H5 b v ss.length 1 vs := hG.vec.chg hch35 hbne
   obtain ⟨cs, st1, st2⟩ := Vec.put1 (lim := lim) hvec (by omega) (Vec.cellsV hpv) hilt
   have hiad : iadV 1 v (.int .i64 i) = some (.pointer (some ⟨b, i, none⟩)) := by
     have := Vec.iad hvec .i64 (i := i) hilt
     rwa [Nat.mul_one] at this
   simp only [o_cont, o_pure, o_eff, o_nil, POp.ev, Opd.ev, EOp.ev, gv, setD, xsj, xel, hiad, st1]
   simp +decide only [pqn, pbn]
   have hchp := Chg.put b H5 cs
   refine s_reg ?_
   simp only [o_pure, o_nil, POp.ev, Opd.ev, gv, setD, List.set, xsj, xel]
   refine s_ret1 ?_
   simp +decide only [pfr, resV, resOne, gv, xsj, xel]
   refine ⟨⟨ss.set i p, ⟨b, vs.set i v5, hbne, by rw [List.length_set]; exact st2, fun j r hr => ?_⟩, ⟨by rw [List.length_set]; exact hsm.1, fun y hy => ?_⟩⟩, Cu.le (hc5.chg hchp (by omega) (by omega)) (by omega), Chg.above (hch03.trans (hch4.trans hch5)) hchp (by omega)⟩
   · have hvl := hvec.clen
     by_cases hji : i = j
     · subst hji
       rw [List.getElem?_set_self hilt] at hr
       cases hr
       exact ⟨v5, c, by rw [List.getElem?_set_self (by omega)], by omega, VecT.chg hpv hchp (by omega)⟩
     · rw [List.getElem?_set_ne hji] at hr
       obtain ⟨s', c', q1, q2, q3⟩ := hG.el j r hr
       have hcm := List.mem_of_getElem? q2
       have := hG.rngs c' hcm
       exact ⟨s', c', by rw [List.getElem?_set_ne hji]; exact q1, by omega, VecT.chg (VecT.chg q3 hch35 (by omega)) hchp (fun e => hG.nin (e ▸ hcm))⟩
   · rcases List.mem_or_eq_of_mem_set hy with h | h
     · exact hsm.2 y h
     · subst h; omega
 have hS3 : SysQ q H3 v ss := (hG.sysQ (by omega)).chg hch3
 refine s_test1_same (k == 1) ?_ (fun hg => ?_) (fun hg => ?_)
 · simp only [o_pure, o_nil, POp.ev, Opd.ev, gv, setD, xsj, xel, binV, ne_eq, xnt, if_false]
   simp
 · refine s_reg ?_
   simp only [o_pure, o_nil, POp.ev, Opd.ev, setD, List.set, xsj, xel]
   refine s_ret1 ?_
   simp +decide only [pqr, pbr, pfr, resV, resOne, gv, xsj, xel]
   exact ⟨⟨[], ⟨q + 1, [], by omega, Vec.nil _ _ _, by simp⟩, ⟨by simp, by simp⟩⟩, hc3.le (by omega), hch03⟩
 refine s_test1_same (k == 2) ?_ (fun hg => ?_) (fun hg => ?_)
 · simp only [o_pure, o_nil, POp.ev, Opd.ev, gv, setD, xsj, xel, binV, ne_eq, xnt, if_false]
   simp
 · refine s_reg ?_
   simp only [o_pure, o_callF, POp.ev, Opd.ev, gv, setD, List.map, xsj, xel]
   refine (system_ok lim q (m + 2404) B s l 4 H3 hl hs hc3 (by omega) (by omega)).mono ?_
   rintro v4 H4 ⟨⟨b4, vs4, bs4, ss4, hG4, _, hsm4⟩, hc4, hch4⟩
   simp only [o_cont, o_pure, o_nil, POp.ev, Opd.ev, gv, setD, List.set, xsj, xel]
   refine s_ret1 ?_
   simp +decide only [pqr, pbr, pfr, resV, resOne, gv, xsj, xel]
   exact ⟨⟨ss4, hG4.sysQ (by omega), hsm4⟩, hc4.le (by omega), hch03.trans hch4⟩
 refine s_skip1 ?_
 simp +decide only [pqn, pbn]
 refine s_reg ?_
 simp only [o_pure, o_nil, POp.ev, Opd.ev, gv, setD, List.set, xsj, xel]
 refine s_ret1 ?_
 simp +decide only [pfr, resV, resOne, gv, xsj, xel]
 exact ⟨⟨ss, hS3, hsm⟩, hc3.le (by omega), hch03⟩
theorem Cu.mk' (H : AHeap) (s : Value) : Cu H (H.alloc [s, .int .i64 0, .int .u64 0]) H.next s 0 := ⟨Ext.alloc _ _, Nat.le_refl _, Nat.lt_succ_self _, 0, 0, alloc_new _ _, Nat.le_refl _⟩
theorem Chg.over {q : Nat} {H H1 H2 : AHeap} (hx : Ext H H1) (h : Chg q H1 H2) (hq : H.next ≤ q) : Ext H H2 := Chg.ext hx h hq
theorem SlB.cellsV {H : AHeap} {s : Value} {l : List Int} (h : SlB H s l) : Go.Ab.cellsV s = some [s] := Sl.cellsV h.sl
theorem drawShift_ok (lim : Nat) (s : Value) (l : List Int) (H : AHeap) (hl : lim ≤ H.next) (hs : SlB H s l) :
   ACalls Tryz.prog lim n_spec_DrawShiftSystem [s] H fun v H' => (∃ x ss u n, v = .tuple #[x, .int .i64 u, .int .i64 n] ∧ SlSS H' x ss ∧ SmS ss ∧ n.natAbs ≤ 1000) ∧ Ext H H' := by
 refine is_spec_DrawShiftSystem.go rfl ?_
 unfold c_spec_DrawShiftSystem
 refine s_reg ?_
 simp only [o_pure, o_nil, POp.ev, Opd.ev, env0, gu, setD, List.set, xsj, xel]
 have hf : fillV [.slice none 0 0, .int .i64 0, .int .u64 0] [(0, 1, s)] = some [s, .int .i64 0, .int .u64 0] := by simp [fillV, hs.cellsV, putL]
 have hx := Ext.alloc H [s, .int .i64 0, .int .u64 0]
 have hc := Cu.mk' H s
 refine s_reg ?_
 simp only [o_pure, o_eff, o_nil, POp.ev, Opd.ev, EOp.ev, gv, setD, List.set, List.map, xms, xsj, xel, hf, boxH, cellsV]
 generalize H.alloc [s, .int .i64 0, .int .u64 0] = H1 at hx hc ⊢
 refine s_reg ?_
 simp only [o_pure, o_callF, POp.ev, Opd.ev, gv, setD, List.map, xsj, xel]
 refine (anySystem_ok lim H.next 0 H s l H1 hl hs hc (by omega)).mono ?_
 rintro v H2 ⟨⟨ss, hS, hsm⟩, hc2, hch2⟩
 simp only [o_cont, o_pure, o_callF, POp.ev, Opd.ev, gv, setD, List.map, xsj, xel]
 refine (sideNumber_ok lim H.next _ H s l H2 hl hs hc2 (by omega)).mono ?_
 rintro _ H3 ⟨⟨u, rfl⟩, hc3, hch3⟩
 have f1 : fillV [.int .i64 0, .int .i64 0] [(0, 1, .int .i64 9), (1, 1, .int .i64 (-9))] = some (([9, -9] : List Int).map vi) := by simp [fillV, Go.Ab.cellsV, putL]
 simp only [o_cont, o_pure, o_eff, o_callF, POp.ev, Opd.ev, EOp.ev, gv, setD, List.map, xsj, xel, bsliceL f1]
 refine (among_lit lim H.next _ H s l [9, -9] H3 hl hs hc3 (by omega) (by simp) (by simp)).mono ?_
 rintro _ H4 ⟨⟨x, hxm, rfl⟩, hc4, hch4⟩
 have f2 : fillV [.int .i64 0, .int .i64 0, .int .i64 0, .int .i64 0, .int .i64 0, .int .i64 0, .int .i64 0, .int .i64 0] [(0, 1, .int .i64 0), (1, 1, .int .i64 1), (2, 1, .int .i64 (-1)), (3, 1, .int .i64 2), (4, 1, .int .i64 (-3)), (5, 1, .int .i64 8), (6, 1, .int .i64 (-8)), (7, 1, .int .i64 x)] = some (([0, 1, -1, 2, -3, 8, -8, x] : List Int).map vi) := by simp [fillV, Go.Ab.cellsV, putL]
 simp only [o_cont, o_eff, o_callF, Opd.ev, EOp.ev, gv, setD, List.map, xsj, xel, bsliceL f2]
 refine (among_lit lim H.next _ H s l [0, 1, -1, 2, -3, 8, -8, x] H4 hl hs hc4 (by omega) (by simp) (by simp)).mono ?_
 rintro _ H5 ⟨⟨y, hym, rfl⟩, hc5, hch5⟩
 simp only [o_cont, o_pure, o_nil, POp.ev, Opd.ev, gv, setD, List.set, xsj, xel]
 refine s_ret1 ?_
 simp +decide only [pfr, resV, resOne, resL, gv, xsj, xel, Option.bind_some, xms]
 refine ⟨⟨v, ss, u, y, rfl, (hS.chg (hch3.trans (hch4.trans hch5))).slss, hsm, ?_⟩, hc5.ext⟩
 simp at hxm hym
 omega
theorem drawSwap_ok (lim : Nat) (s : Value) (l : List Int) (H : AHeap) (hl : lim ≤ H.next) (hs : SlB H s l) :
   ACalls Tryz.prog lim n_spec_DrawSwapEquations [s] H fun v H' => (∃ x ss u n, v = .tuple #[x, .int .i64 u, .int .i64 n] ∧ SlSS H' x ss ∧ SmS ss) ∧ Ext H H' := by
 refine is_spec_DrawSwapEquations.go rfl ?_
 unfold c_spec_DrawSwapEquations
 refine s_reg ?_
 simp only [o_pure, o_nil, POp.ev, Opd.ev, env0, gu, setD, List.set, xsj, xel]
 have hf : fillV [.slice none 0 0, .int .i64 0, .int .u64 0] [(0, 1, s)] = some [s, .int .i64 0, .int .u64 0] := by simp [fillV, hs.cellsV, putL]
 have hx := Ext.alloc H [s, .int .i64 0, .int .u64 0]
 have hc := Cu.mk' H s
 refine s_reg ?_
 simp only [o_pure, o_eff, o_nil, POp.ev, Opd.ev, EOp.ev, gv, setD, List.set, List.map, xms, xsj, xel, hf, boxH, cellsV]
 generalize H.alloc [s, .int .i64 0, .int .u64 0] = H1 at hx hc ⊢
 refine s_reg ?_
 simp only [o_pure, o_callF, POp.ev, Opd.ev, gv, setD, List.map, xsj, xel]
 refine (anySystem_ok lim H.next 0 H s l H1 hl hs hc (by omega)).mono ?_
 rintro v H2 ⟨⟨ss, hS, hsm⟩, hc2, hch2⟩
 simp only [o_cont, o_pure, o_callF, POp.ev, Opd.ev, gv, setD, List.map, xsj, xel]
 refine (sideNumber_ok lim H.next _ H s l H2 hl hs hc2 (by omega)).mono ?_
 rintro _ H3 ⟨⟨u, rfl⟩, hc3, hch3⟩
 simp only [o_cont, o_pure, o_callF, POp.ev, Opd.ev, gv, setD, List.map, xsj, xel]
 refine (sideNumber_ok lim H.next _ H s l H3 hl hs hc3 (by omega)).mono ?_
 rintro _ H4 ⟨⟨n, rfl⟩, hc4, hch4⟩
 simp only [o_cont, o_pure, o_nil, POp.ev, Opd.ev, gv, setD, List.set, xsj, xel]
 refine s_ret1 ?_
 simp +decide only [pfr, resV, resOne, resL, gv, xsj, xel, Option.bind_some, xms]
 exact ⟨⟨v, ss, u, n, rfl, (hS.chg (hch3.trans hch4)).slss, hsm⟩, hc4.ext⟩
theorem drawMix_ok (lim : Nat) (s : Value) (l : List Int) (H : AHeap) (hl : lim ≤ H.next) (hs : SlB H s l) :
   ACalls Tryz.prog lim n_spec_DrawMixEquations [s] H fun v H' => (∃ x ss a b n, v = .tuple #[x, .int .i64 a, .int .i64 b, .int .i64 n] ∧ SlSS H' x ss ∧ SmS ss ∧ n.natAbs ≤ 1000) ∧ Ext H H' := by
 refine is_spec_DrawMixEquations.go rfl ?_
 unfold c_spec_DrawMixEquations
 refine s_reg ?_
 simp only [o_pure, o_nil, POp.ev, Opd.ev, env0, gu, setD, List.set, xsj, xel]
 have hf : fillV [.slice none 0 0, .int .i64 0, .int .u64 0] [(0, 1, s)] = some [s, .int .i64 0, .int .u64 0] := by simp [fillV, hs.cellsV, putL]
 have hx := Ext.alloc H [s, .int .i64 0, .int .u64 0]
 have hc := Cu.mk' H s
 refine s_reg ?_
 simp only [o_pure, o_eff, o_nil, POp.ev, Opd.ev, EOp.ev, gv, setD, List.set, List.map, xms, xsj, xel, hf, boxH, cellsV]
 generalize H.alloc [s, .int .i64 0, .int .u64 0] = H1 at hx hc ⊢
 refine s_reg ?_
 simp only [o_pure, o_callF, POp.ev, Opd.ev, gv, setD, List.map, xsj, xel]
 refine (anySystem_ok lim H.next 0 H s l H1 hl hs hc (by omega)).mono ?_
 rintro v H2 ⟨⟨ss, hS, hsm⟩, hc2, hch2⟩
 simp only [o_cont, o_pure, o_callF, POp.ev, Opd.ev, gv, setD, List.map, xsj, xel]
 refine (sideNumber_ok lim H.next _ H s l H2 hl hs hc2 (by omega)).mono ?_
 rintro _ H3 ⟨⟨a, rfl⟩, hc3, hch3⟩
 simp only [o_cont, o_pure, o_callF, POp.ev, Opd.ev, gv, setD, List.map, xsj, xel]
 refine (sideNumber_ok lim H.next _ H s l H3 hl hs hc3 (by omega)).mono ?_
 rintro _ H4 ⟨⟨b, rfl⟩, hc4, hch4⟩
 have f1 : fillV [.int .i64 0, .int .i64 0] [(0, 1, .int .i64 101), (1, 1, .int .i64 (-101))] = some (([101, -101] : List Int).map vi) := by simp [fillV, Go.Ab.cellsV, putL]
 simp only [o_cont, o_pure, o_eff, o_callF, POp.ev, Opd.ev, EOp.ev, gv, setD, List.map, xsj, xel, bsliceL f1]
 refine (among_lit lim H.next _ H s l [101, -101] H4 hl hs hc4 (by omega) (by simp) (by simp)).mono ?_
 rintro _ H5 ⟨⟨x, hxm, rfl⟩, hc5, hch5⟩
 have f2 : fillV [.int .i64 0, .int .i64 0, .int .i64 0, .int .i64 0, .int .i64 0, .int .i64 0, .int .i64 0, .int .i64 0] [(0, 1, .int .i64 0), (1, 1, .int .i64 1), (2, 1, .int .i64 (-1)), (3, 1, .int .i64 2), (4, 1, .int .i64 (-5)), (5, 1, .int .i64 100), (6, 1, .int .i64 (-100)), (7, 1, .int .i64 x)] = some (([0, 1, -1, 2, -5, 100, -100, x] : List Int).map vi) := by simp [fillV, Go.Ab.cellsV, putL]
 simp only [o_cont, o_eff, o_callF, Opd.ev, EOp.ev, gv, setD, List.map, xsj, xel, bsliceL f2]
 refine (among_lit lim H.next _ H s l [0, 1, -1, 2, -5, 100, -100, x] H5 hl hs hc5 (by omega) (by simp) (by simp)).mono ?_
 rintro _ H6 ⟨⟨y, hym, rfl⟩, hc6, hch6⟩
 simp only [o_cont, o_pure, o_nil, POp.ev, Opd.ev, gv, setD, List.set, xsj, xel]
 refine s_ret1 ?_
 simp +decide only [pfr, resV, resOne, resL, gv, xsj, xel, Option.bind_some, xms]
 refine ⟨⟨v, ss, a, b, y, rfl, (hS.chg (hch3.trans (hch4.trans (hch5.trans hch6)))).slss, hsm, ?_⟩, hc6.ext⟩
 simp at hxm hym
 omega
theorem eqT_tv (a b : Tm) : eqIV true 4 (tv a) (tv b) = some (.bool (!decide (a = b))) := by
 have e1 : decide (a = b) = (decide (a.c = b.c) && decide (a.x = b.x) && decide (a.y = b.y) && decide (a.z = b.z)) := by
   cases a; cases b
   rw [Bool.eq_iff_iff]
   simp [and_assoc]
 rw [e1]
 cases h1 : decide (a.c = b.c) <;> cases h2 : decide (a.x = b.x) <;> cases h3 : decide (a.y = b.y) <;> cases h4 : decide (a.z = b.z) <;> simp_all [eqIV, tv, eqL]
theorem sameT_ok (lim : Nat) (a b : Value) (p q : List Tm) (H : AHeap) (ha : SlT H a p) (hb : SlT H b q) (hn : p.length ≤ 1000000000) :
   ACalls Tryz.prog lim n_laws_pSameTerms [a, b] H fun v H' => v = .bool (decide (p = q)) ∧ H' = H := by
 refine is_laws_pSameTerms.go rfl ?_
 unfold c_laws_pSameTerms
 refine s_reg ?_
 simp only [o_pure, o_nil, POp.ev, Opd.ev, env0, gu, setD, List.set, xsj, xel]
 refine s_test_same (decide ((p.length : Int) ≠ (q.length : Int))) ?_ (fun hg => ?_) (fun hg => ?_)
 · simp only [o_pure, o_nil, POp.ev, Opd.ev, gv, setD, xsj, xel, binV, ne_eq, xnt, if_false, ha.lenV, hb.lenV]
   refine ⟨?_, trivial, trivial⟩
   congr 1
   rw [Bool.eq_iff_iff]
   simp
 · have hne : p ≠ q := by
     have := of_decide_eq_true hg
     intro e
     subst e
     exact this rfl
   refine s_reg ?_
   simp only [o_pure, o_nil, POp.ev, Opd.ev, setD, List.set, xsj, xel]
   refine s_ret1 ?_
   simp +decide only [pqr, pfr, resV, resOne, gv, xsj, xel]
   exact ⟨by simp [hne], trivial⟩
 have hlen : p.length = q.length := by
   have := of_decide_eq_false hg
   omega
 refine s_skip1 ?_
 simp +decide only [pqn]
 refine s_assoc (s_reg ?_)
 simp only [o_pure, o_nil, POp.ev, Opd.ev, gv, setD, List.set, xsj, xel, ha.lenV]
 refine s_block ?_
 refine s_loop1 (fun k e' H' => H' = H ∧ ∃ (i : Nat) (x3 : Value), i + k = p.length ∧ (p = q ↔ p.drop i = q.drop i) ∧ e' = [a, b, .bool false, x3, .int .i64 p.length, .int .i64 i]) p.length ⟨rfl, 0, _, by omega, by simp, rfl⟩ ?_
 rintro k e' H' ⟨rfl, i, x3, hik, hall, rfl⟩
 refine s_test ?_
 simp only [o_pure, o_nil, POp.ev, Opd.ev, gv, setD, xsj, xel, binV, ne_eq, xnt, if_false]
 refine Test.split (fun hlt => ?_) (fun hlt => ?_)
 · have hlt' : i < p.length := by simpa using hlt
   have hlt2 : i < q.length := by omega
   obtain ⟨b1, o1, h1, hat⟩ := ha.at hlt'
   obtain ⟨b2, o2, h2, hat2⟩ := hb.at hlt2
   rw [List.drop_eq_getElem_cons hlt', List.drop_eq_getElem_cons hlt2] at hall
   refine s_skip1 ?_
   simp +decide only [pqn]
   refine s_block ?_
   refine s_reg ?_
   simp only [o_pure, o_nil, POp.ev, Opd.ev, gv, setD, List.set, xsj, xel]
   refine s_test1_same (!decide (p[i] = q[i])) ?_ (fun hg2 => ?_) (fun hg2 => ?_)
   · simp only [o_pure, o_nil, POp.ev, Opd.ev, gv, setD, xsj, xel, h1, h2, hat.all, hat2.all, eqT_tv]
     simp
   · have hne : p[i] ≠ q[i] := by simpa using hg2
     have : p ≠ q := by
       intro e
       exact hne (List.cons.inj (hall.1 e)).1
     refine s_reg ?_
     simp only [o_pure, o_nil, POp.ev, Opd.ev, setD, List.set, xsj, xel]
     refine s_ret1 ?_
     simp +decide only [pqr, pbr, pfr, resV, resOne, gv, xsj, xel]
     exact ⟨by simp [this], trivial⟩
   · have he : p[i] = q[i] := by simpa using hg2
     refine s_skip1 ?_
     simp +decide only [pqn, pbn]
     refine s_reg1 ?_
     simp only [o_pure, o_nil, POp.ev, Opd.ev, gv, setD, List.set, xsj, xel, binV, ne_eq, xnt, if_false, add1 (i := i) (by omega)]
     simp +decide only [pqn]
     refine Round.mk (k - 1) (by omega) ⟨rfl, i + 1, _, by omega, ?_, rfl⟩
     rw [hall, List.cons.injEq]
     exact ⟨fun h => h.2, fun h => ⟨he, h⟩⟩
 · have hi : i = p.length := by simp at hlt; omega
   subst hi
   have : p = q := hall.2 (by rw [List.drop_of_length_le (Nat.le_refl _), List.drop_of_length_le (by omega)])
   refine s_exit1 ?_
   simp +decide only [pqn, pqe, pbe, reduceIte]
   refine s_reg ?_
   simp only [o_pure, o_nil, POp.ev, Opd.ev, setD, List.set, xsj, xel]
   refine s_ret1 ?_
   simp +decide only [pfr, resV, resOne, gv, xsj, xel]
   exact ⟨by simp [this], trivial⟩
theorem sameSS_ok (lim : Nat) (a b : Value) (p q : List (List Tm)) (H : AHeap) (ha : SlSS H a p) (hb : SlSS H b q) (hn : p.length ≤ 1000000000) (hn2 : ∀ x ∈ p, x.length ≤ 1000000000) :
   ACalls Tryz.prog lim n_laws_pSameSystem [a, b] H fun v H' => v = .bool (decide (p = q)) ∧ H' = H := by
 refine is_laws_pSameSystem.go rfl ?_
 unfold c_laws_pSameSystem
 refine s_reg ?_
 simp only [o_pure, o_nil, POp.ev, Opd.ev, env0, gu, setD, List.set, xsj, xel]
 refine s_test_same (decide ((p.length : Int) ≠ (q.length : Int))) ?_ (fun hg => ?_) (fun hg => ?_)
 · simp only [o_pure, o_nil, POp.ev, Opd.ev, gv, setD, xsj, xel, binV, ne_eq, xnt, if_false, ha.lenV, hb.lenV]
   refine ⟨?_, trivial, trivial⟩
   congr 1
   rw [Bool.eq_iff_iff]
   simp
 · have hne : p ≠ q := by
     have := of_decide_eq_true hg
     intro e
     subst e
     exact this rfl
   refine s_reg ?_
   simp only [o_pure, o_nil, POp.ev, Opd.ev, setD, List.set, xsj, xel]
   refine s_ret1 ?_
   simp +decide only [pqr, pfr, resV, resOne, gv, xsj, xel]
   exact ⟨by simp [hne], trivial⟩
 have hlen : p.length = q.length := by
   have := of_decide_eq_false hg
   omega
 refine s_skip1 ?_
 simp +decide only [pqn]
 refine s_assoc (s_reg ?_)
 simp only [o_pure, o_nil, POp.ev, Opd.ev, gv, setD, List.set, xsj, xel, ha.lenV]
 refine s_block ?_
 refine s_loop1 (fun k e' H' => H' = H ∧ ∃ (i : Nat) (x3 : Value), i + k = p.length ∧ (p = q ↔ p.drop i = q.drop i) ∧ e' = [a, b, .bool false, x3, .int .i64 p.length, .int .i64 i]) p.length ⟨rfl, 0, _, by omega, by simp, rfl⟩ ?_
 rintro k e' H' ⟨rfl, i, x3, hik, hall, rfl⟩
 refine s_test ?_
 simp only [o_pure, o_nil, POp.ev, Opd.ev, gv, setD, xsj, xel, binV, ne_eq, xnt, if_false]
 refine Test.split (fun hlt => ?_) (fun hlt => ?_)
 · have hlt' : i < p.length := by simpa using hlt
   have hlt2 : i < q.length := by omega
   obtain ⟨b1, o1, s1, h1, g1, k1⟩ := ha.at hlt'
   obtain ⟨b2, o2, s2, h2, g2, k2⟩ := hb.at hlt2
   rw [List.drop_eq_getElem_cons hlt', List.drop_eq_getElem_cons hlt2] at hall
   refine s_skip1 ?_
   simp +decide only [pqn]
   refine s_block ?_
   refine s_reg ?_
   simp only [o_pure, o_nil, POp.ev, Opd.ev, gv, setD, List.set, xsj, xel]
   refine s_test1_same (!decide (p[i] = q[i])) ?_ (fun hg2 => ?_) (fun hg2 => ?_)
   · simp only [o_pure, o_callF, POp.ev, Opd.ev, gv, setD, List.map, xsj, xel, load1V, h1, h2, g1, g2]
     refine (sameT_ok lim s1 s2 p[i] q[i] H' k1 k2 (hn2 _ (List.getElem_mem hlt'))).eq ?_
     simp only [o_cont, o_pure, o_nil, POp.ev, Opd.ev, gv, setD, xsj, xel, unV]
     simp
   · have hne : p[i] ≠ q[i] := by simpa using hg2
     have : p ≠ q := by
       intro e
       exact hne (List.cons.inj (hall.1 e)).1
     refine s_reg ?_
     simp only [o_pure, o_nil, POp.ev, Opd.ev, setD, List.set, xsj, xel]
     refine s_ret1 ?_
     simp +decide only [pqr, pbr, pfr, resV, resOne, gv, xsj, xel]
     exact ⟨by simp [this], trivial⟩
   · have he : p[i] = q[i] := by simpa using hg2
     refine s_skip1 ?_
     simp +decide only [pqn, pbn]
     refine s_reg1 ?_
     simp only [o_pure, o_nil, POp.ev, Opd.ev, gv, setD, List.set, xsj, xel, binV, ne_eq, xnt, if_false, add1 (i := i) (by omega)]
     simp +decide only [pqn]
     refine Round.mk (k - 1) (by omega) ⟨rfl, i + 1, _, by omega, ?_, rfl⟩
     rw [hall, List.cons.injEq]
     exact ⟨fun h => h.2, fun h => ⟨he, h⟩⟩
 · have hi : i = p.length := by simp at hlt; omega
   subst hi
   have : p = q := hall.2 (by rw [List.drop_of_length_le (Nat.le_refl _), List.drop_of_length_le (by omega)])
   refine s_exit1 ?_
   simp +decide only [pqn, pqe, pbe, reduceIte]
   refine s_reg ?_
   simp only [o_pure, o_nil, POp.ev, Opd.ev, setD, List.set, xsj, xel]
   refine s_ret1 ?_
   simp +decide only [pfr, resV, resOne, gv, xsj, xel]
   exact ⟨by simp [this], trivial⟩
theorem sameI_ok (lim : Nat) (a b : Value) (p q : List Int) (H : AHeap) (ha : SlI H a p) (hb : SlI H b q) (hn : p.length ≤ 1000000000) :
   ACalls Tryz.prog lim n_laws_sameInts [a, b] H fun v H' => v = .bool (decide (p = q)) ∧ H' = H := by
 refine is_laws_sameInts.go rfl ?_
 unfold c_laws_sameInts
 refine s_reg ?_
 simp only [o_pure, o_nil, POp.ev, Opd.ev, env0, gu, setD, List.set, xsj, xel]
 refine s_test_same (decide ((p.length : Int) ≠ (q.length : Int))) ?_ (fun hg => ?_) (fun hg => ?_)
 · simp only [o_pure, o_nil, POp.ev, Opd.ev, gv, setD, xsj, xel, binV, ne_eq, xnt, if_false, ha.lenV, hb.lenV]
   refine ⟨?_, trivial, trivial⟩
   congr 1
   rw [Bool.eq_iff_iff]
   simp
 · have hne : p ≠ q := by
     have := of_decide_eq_true hg
     intro e
     subst e
     exact this rfl
   refine s_reg ?_
   simp only [o_pure, o_nil, POp.ev, Opd.ev, setD, List.set, xsj, xel]
   refine s_ret1 ?_
   simp +decide only [pqr, pfr, resV, resOne, gv, xsj, xel]
   exact ⟨by simp [hne], trivial⟩
 have hlen : p.length = q.length := by
   have := of_decide_eq_false hg
   omega
 refine s_skip1 ?_
 simp +decide only [pqn]
 refine s_assoc (s_reg ?_)
 simp only [o_pure, o_nil, POp.ev, Opd.ev, gv, setD, List.set, xsj, xel, ha.lenV]
 refine s_block ?_
 refine s_loop1 (fun k e' H' => H' = H ∧ ∃ (i : Nat) (x3 : Value), i + k = p.length ∧ (p = q ↔ p.drop i = q.drop i) ∧ e' = [a, b, .bool false, x3, .int .i64 p.length, .int .i64 i]) p.length ⟨rfl, 0, _, by omega, by simp, rfl⟩ ?_
 rintro k e' H' ⟨rfl, i, x3, hik, hall, rfl⟩
 refine s_test ?_
 simp only [o_pure, o_nil, POp.ev, Opd.ev, gv, setD, xsj, xel, binV, ne_eq, xnt, if_false]
 refine Test.split (fun hlt => ?_) (fun hlt => ?_)
 · have hlt' : i < p.length := by simpa using hlt
   have hlt2 : i < q.length := by omega
   obtain ⟨b1, o1, h1, _, g1⟩ := SlI.get ha hlt'
   obtain ⟨b2, o2, h2, _, g2⟩ := SlI.get hb hlt2
   rw [List.drop_eq_getElem_cons hlt', List.drop_eq_getElem_cons hlt2] at hall
   refine s_skip1 ?_
   simp +decide only [pqn]
   refine s_block ?_
   refine s_reg ?_
   simp only [o_pure, o_nil, POp.ev, Opd.ev, gv, setD, List.set, xsj, xel]
   refine s_test1_same (p[i] != q[i]) ?_ (fun hg2 => ?_) (fun hg2 => ?_)
   · simp only [o_pure, o_nil, POp.ev, Opd.ev, gv, setD, xsj, xel, binV, load1V, ne_eq, xnt, if_false, h1, h2, g1, g2]
     simp
   · have hne : p[i] ≠ q[i] := by simpa using hg2
     have : p ≠ q := by
       intro e
       exact hne (List.cons.inj (hall.1 e)).1
     refine s_reg ?_
     simp only [o_pure, o_nil, POp.ev, Opd.ev, setD, List.set, xsj, xel]
     refine s_ret1 ?_
     simp +decide only [pqr, pbr, pfr, resV, resOne, gv, xsj, xel]
     exact ⟨by simp [this], trivial⟩
   · have he : p[i] = q[i] := by simpa using hg2
     refine s_skip1 ?_
     simp +decide only [pqn, pbn]
     refine s_reg1 ?_
     simp only [o_pure, o_nil, POp.ev, Opd.ev, gv, setD, List.set, xsj, xel, binV, ne_eq, xnt, if_false, add1 (i := i) (by omega)]
     simp +decide only [pqn]
     refine Round.mk (k - 1) (by omega) ⟨rfl, i + 1, _, by omega, ?_, rfl⟩
     rw [hall, List.cons.injEq]
     exact ⟨fun h => h.2, fun h => ⟨he, h⟩⟩
 · have hi : i = p.length := by simp at hlt; omega
   subst hi
   have : p = q := hall.2 (by rw [List.drop_of_length_le (Nat.le_refl _), List.drop_of_length_le (by omega)])
   refine s_exit1 ?_
   simp +decide only [pqn, pqe, pbe, reduceIte]
   refine s_reg ?_
   simp only [o_pure, o_nil, POp.ev, Opd.ev, setD, List.set, xsj, xel]
   refine s_ret1 ?_
   simp +decide only [pfr, resV, resOne, gv, xsj, xel]
   exact ⟨by simp [this], trivial⟩
theorem big_ok (lim : Nat) (a b : Value) (n m : Nat) (ca cb : List Value) (H : AHeap) (ha : Sl H a n 1 ca) (hb : Sl H b m 1 cb) :
   ACalls Tryz.prog lim n_laws_big [a, b] H fun v H' => (∃ x : Bool, v = .bool x) ∧ H' = H := by
 refine is_laws_big.go rfl ?_
 unfold c_laws_big
 refine s_reg ?_
 simp only [o_pure, o_nil, POp.ev, Opd.ev, env0, gu, setD, List.set, xsj, xel]
 refine s_reg ?_
 cases h : decide ((n : Int) > 1048576)
 · simp only [o_pure, o_guard, gk_ff, o_nil, POp.ev, Opd.ev, gv, setD, List.set, xsj, xel, pickV, binV, ne_eq, xnt, if_false, ha.lenV, hb.lenV, h]
   refine s_ret1 ?_
   simp +decide only [pfr, resV, resOne, gv, xsj, xel]
   exact ⟨⟨_, rfl⟩, trivial⟩
 · simp only [o_pure, o_guard, gk_tf, o_nil, POp.ev, Opd.ev, gv, setD, List.set, xsj, xel, pickV, binV, ne_eq, xnt, if_false, ha.lenV, h]
   refine s_ret1 ?_
   simp +decide only [pfr, resV, resOne, gv, xsj, xel]
   exact ⟨⟨_, rfl⟩, trivial⟩
end Go.Proofs.YtmdeppkfboaepaaGreat
