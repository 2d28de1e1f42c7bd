/- Parts of the proof of a statement of this seat: contracts of functions that the law calls, or the law's own row; no condition. -/
import Derived.Test.YtmdeppkfboaepaaGreatM4
/- Systems of polynomials: products of terms and joined lists of terms; no condition beyond stated ranges. -/
namespace Go.Proofs.YtmdeppkfboaepaaGreat
open Go.Ab
set_option linter.unusedSimpArgs false
set_option linter.unusedVariables false
theorem bldT (a b c d : Int) : fillV [.int .i64 0, .int .i64 0, .int .i64 0, .int .i64 0] [(0, 1, .int .i64 a), (1, 1, .int .i64 b), (2, 1, .int .i64 c), (3, 1, .int .i64 d)] = some (tc ⟨a, b, c, d⟩) := by
 simp [fillV, cellsV, tc, putL]
def mulT (a b : Tm) : Tm := ⟨W (a.c * b.c), a.x + b.x, a.y + b.y, a.z + b.z⟩
def prodL (p q : List Tm) : List Tm := p.flatMap fun a => q.map (mulT a)
theorem prodL_length (p q : List Tm) : (prodL p q).length = p.length * q.length := by
 induction p with
 | nil => simp [prodL]
 | cons a p ih =>
   have : prodL (a :: p) q = q.map (mulT a) ++ prodL p q := rfl
   rw [this, List.length_append, ih, List.length_map, List.length_cons, Nat.succ_mul]
   omega
theorem prodL_take {p q : List Tm} {i : Nat} (h : i < p.length) : prodL (p.take (i + 1)) q = prodL (p.take i) q ++ q.map (mulT p[i]) := by
 unfold prodL
 rw [List.take_succ_eq_append_getElem h, List.flatMap_append]
 simp
theorem prodL_take_le {p q : List Tm} {i : Nat} : (prodL (p.take i) q).length ≤ p.length * q.length := by
 rw [prodL_length]
 exact Nat.mul_le_mul_right _ (by simp; omega)
def exS (t : Tm) : Prop := (0 ≤ t.x ∧ t.x ≤ 1000) ∧ (0 ≤ t.y ∧ t.y ≤ 1000) ∧ (0 ≤ t.z ∧ t.z ≤ 1000)
theorem BoxT.low {Hb Hb' H : AHeap} {q : Nat} {t : Tm} (h : BoxT Hb H q t) (hx : Ext Hb' Hb) : BoxT Hb' H q t := ⟨hx.trans h.ext, Nat.le_trans hx.next h.ge, h.lt, h.blk⟩
theorem BoxT.chg {Hb H H' : AHeap} {q b : Nat} {t : Tm} (h : BoxT Hb H q t) (hc : Chg b H H') (hb : Hb.next ≤ b) (hne : q ≠ b) : BoxT Hb H' q t :=
 ⟨Chg.ext h.ext hc hb, h.ge, Nat.lt_of_lt_of_le h.lt hc.next, by rw [hc.blk q h.lt hne]; exact h.blk⟩
theorem VecT.avoid {H : AHeap} {b a : Nat} {v : Value} {l : List Tm} (h : VecT H b v l) : ∃ b2, VecT H b2 v l ∧ (b2 = b ∧ b < H.next ∨ b2 = a) := by
 rcases h with h | h
 · exact ⟨a, .inl h, .inr rfl⟩
 · obtain ⟨c, sp, rest, h1, h2, h3, h4⟩ := h
   exact ⟨b, .inr ⟨c, sp, rest, h1, h2, h3, h4⟩, .inl ⟨rfl, h3⟩⟩
theorem multiplyTerms_ok (lim : Nat) (sp sq : Value) (p q : List Tm) (H : AHeap) (hl : lim ≤ H.next) (hp : SlT H sp p) (hq : SlT H sq q) (hn : p.length ≤ 100) (hm : q.length ≤ 100) (ep : ∀ t ∈ p, exS t) (eq : ∀ t ∈ q, exS t) :
   ACalls Tryz.prog lim n_impl_multiplyTerms [sp, sq] H fun v H' => ∃ b, H.next ≤ b ∧ b ≤ H'.next ∧ VecT H' b v (coll (prodL p q)) ∧ Ext H H' := by
 refine is_impl_multiplyTerms.go rfl ?_
 unfold c_impl_multiplyTerms
 have hpq : p.length * q.length ≤ 10000 := Nat.mul_le_mul hn hm
 refine s_reg ?_
 simp only [o_pure, o_nil, POp.ev, Opd.ev, env0, gu, setD, List.set, xsj, xel]
 refine s_reg ?_
 simp only [o_pure, o_nil, POp.ev, Opd.ev, setD, List.set, xsj, xel]
 refine s_assoc (s_reg ?_)
 simp only [o_pure, o_nil, POp.ev, Opd.ev, gv, setD, List.set, xsj, xel, hp.lenV]
 refine s_block ?_
 refine s_loop1 (fun k e' H' => ∃ (i b : Nat) (v x4 x5 x9 x10 x11 : Value), i + k = p.length ∧ VecT H' b v (prodL (p.take i) q) ∧ H.next ≤ b ∧ b ≤ H'.next ∧ Ext H H' ∧ e' = [sp, sq, .slice none 0 0, v, x4, x5, sp, .int .i64 p.length, .int .i64 i, x9, x10, x11]) p.length ⟨0, H.next, _, _, _, _, _, _, by omega, vecT_nil _ _, Nat.le_refl _, Nat.le_refl _, Ext.refl _, rfl⟩ ?_
 rintro k e' H1 ⟨i, b, v, x4, x5, x9, x10, x11, hik, hv, hb, hbH, hx, rfl⟩
 have hnx := hx.next
 refine s_test ?_
 simp only [o_pure, o_nil, POp.ev, Opd.ev, gv, setD, xsj, xel, binV, ne_eq, xnt, if_false]
 refine Test.split (fun hlt => ?_) (fun hlt => ?_)
 · have hlt' : i < p.length := by simpa using hlt
   obtain ⟨b2, o2, h2, a2⟩ := (hp.ext hx).at hlt'
   refine s_skip1 ?_
   simp +decide only [pqn]
   refine s_block ?_
   refine s_reg ?_
   simp only [o_pure, o_eff, o_nil, POp.ev, Opd.ev, EOp.ev, gv, setD, List.set, xsj, xel, h2, a2.all, store4_new (lim := lim) (H := H1) (by omega)]
   have hA := BoxT.mk' H1 p[i]
   generalize H1.alloc (tc p[i]) = H2 at hA ⊢
   generalize H1.next = a at hA hnx hbH ⊢
   have hx2 := hx.trans hA.ext
   have hn2 := hA.lt
   have hage := hA.ge
   obtain ⟨b', hv', hb'⟩ := VecT.avoid (a := a + 1) hv
   replace hv := VecT.ext hv' hA.ext
   have hq2 := hq.ext hx2
   have hA0 := hA.low hx
   refine s_reg ?_
   simp only [o_pure, o_nil, POp.ev, Opd.ev, gv, setD, List.set, xsj, xel, hq2.lenV]
   refine s_block1 ?_
   refine s_loop1 (fun k2 e' H' => ∃ (j b : Nat) (v x5 : Value), j + k2 = q.length ∧ VecT H' b v (prodL (p.take i) q ++ (q.take j).map (mulT p[i])) ∧ H.next ≤ b ∧ b ≤ H'.next ∧ b ≠ a ∧ BoxT H H' a p[i] ∧ e' = [sp, sq, .slice none 0 0, v, .pointer (some ⟨a, 0, none⟩), x5, sp, .int .i64 p.length, .int .i64 i, sq, .int .i64 q.length, .int .i64 j]) q.length ⟨0, b', _, _, by omega, by simpa using hv, by omega, by omega, by omega, hA0, rfl⟩ ?_
   clear hv hb hbH hv' hb' hA hA0 hn2 hage
   rintro k2 e' H3 ⟨j, b, v, x5', hjk, hv, hb, hbH, hba, hA, rfl⟩
   have hx3 := hA.ext
   have hn3 := hx3.next
   have hage := hA.ge
   have halt := hA.lt
   refine s_test ?_
   simp only [o_pure, o_nil, POp.ev, Opd.ev, gv, setD, xsj, xel, binV, ne_eq, xnt, if_false]
   refine Test.split (fun hlt2 => ?_) (fun hlt2 => ?_)
   · have hlt3 : j < q.length := by simpa using hlt2
     obtain ⟨b4, o4, h4, a4⟩ := (hq.ext hx3).at hlt3
     refine s_skip1 ?_
     simp +decide only [pqn]
     refine s_block ?_
     refine s_reg ?_
     simp only [o_pure, o_eff, o_nil, POp.ev, Opd.ev, EOp.ev, gv, setD, List.set, xsj, xel, h4, a4.all, store4_new (lim := lim) (H := H3) (by omega)]
     have hB := BoxT.mk' H3 q[j]
     generalize H3.alloc (tc q[j]) = H4 at hB ⊢
     generalize H3.next = c at hB hn3 hbH ⊢
     have hn4 := hB.lt
     have hcge := hB.ge
     have hA4 := hA.mono hB.ext
     have e1 := ep _ (List.getElem_mem hlt')
     have e2 := eq _ (List.getElem_mem hlt3)
     obtain ⟨⟨u1, u2⟩, ⟨u3, u4⟩, u5, u6⟩ := e1
     obtain ⟨⟨v1, v2⟩, ⟨v3, v4⟩, v5, v6⟩ := e2
     have wx : IntKind.i64.wrap (p[i].x + q[j].x) = p[i].x + q[j].x := by rw [IntKind.wrap_i64]; omega
     have wy : IntKind.i64.wrap (p[i].y + q[j].y) = p[i].y + q[j].y := by rw [IntKind.wrap_i64]; omega
     have wz : IntKind.i64.wrap (p[i].z + q[j].z) = p[i].z + q[j].z := by rw [IntKind.wrap_i64]; omega
     replace hv := VecT.ext hv hB.ext
     have hlen : (prodL (p.take i) q ++ (q.take j).map (mulT p[i])).length ≤ 20000 := by
       have := prodL_take_le (p := p) (q := q) (i := i)
       simp
       omega
     obtain ⟨v', H5, b', g1, g2, g3, g4, g5⟩ := pushT (lim := lim) hv (mulT p[i] q[j]) (by omega) (by omega)
     refine s_reg1 ?_
     have hbs : bsliceH H4 1 [.int .i64 0, .int .i64 0, .int .i64 0, .int .i64 0] [(0, 4, tv (mulT p[i] q[j]))] = some (.slice (some ⟨H4.next, 0, some 0⟩) 1 1, H4.alloc (tc (mulT p[i] q[j]))) := bsliceT _ _
     simp only [o_pure, o_eff, o_nil, POp.ev, Opd.ev, EOp.ev, gv, setD, List.set, List.map, xms, xsj, xel, binV, load1V, fadV, ne_eq, xnt, if_false, Nat.add_zero, Nat.zero_add, hA4.c0, hA4.c1, hA4.c2, hA4.c3, hB.c0, hB.c1, hB.c2, hB.c3, wx, wy, wz, bldT]
     refine ⟨_, hbs, _, g1, ?_⟩
     simp +decide only [pqn, pbn]
     refine s_reg1 ?_
     simp only [o_pure, o_nil, POp.ev, Opd.ev, gv, setD, List.set, xsj, xel, binV, ne_eq, xnt, if_false, add1 (i := j) (by omega)]
     simp +decide only [pqn]
     refine Round.mk (k2 - 1) (by omega) ⟨j + 1, b', v', _, by omega, ?_, by rcases g3 with rfl | g3 <;> omega, by omega, by rcases g3 with rfl | g3 <;> omega, hA4.chg g5 hb (fun e => hba e.symm), rfl⟩
     · rw [List.take_succ_eq_append_getElem hlt3, List.map_append, ← List.append_assoc]
       exact g2
   · have hge : j = q.length := by simp at hlt2; omega
     subst hge
     rw [List.take_length, ← prodL_take hlt'] at hv
     refine s_exit1 ?_
     simp +decide only [pqn, pqe, pbn, pbe, reduceIte]
     refine s_reg1 ?_
     simp only [o_pure, o_nil, POp.ev, Opd.ev, gv, setD, List.set, xsj, xel, binV, ne_eq, xnt, if_false, add1 (i := i) (by omega)]
     simp +decide only [pqn]
     exact Round.mk (k - 1) (by omega) ⟨i + 1, b, v, _, _, _, _, _, by omega, hv, hb, hbH, hx3, rfl⟩
 · have hge : i = p.length := by simp at hlt; omega
   subst hge
   rw [List.take_length] at hv
   refine s_exit1 ?_
   simp +decide only [pqn, pqe, pbe, reduceIte]
   refine s_reg ?_
   simp only [o_pure, o_callF, POp.ev, Opd.ev, gv, setD, List.map, xsj, xel]
   refine (collectG_ok lim v _ _ (by omega) (Vec.sl hv) (by rw [prodL_length]; omega)).mono ?_
   rintro v' H2 ⟨b', g1, g2, g3, g4⟩
   simp only [o_cont, o_pure, o_nil, POp.ev, Opd.ev, gv, setD, List.set, xsj, xel]
   refine s_ret1 ?_
   simp +decide only [pfr, resV, resOne, gv, xsj, xel]
   exact ⟨b', by omega, g2, g3, hx.trans g4⟩
theorem zerosL4 (n : Nat) : (zerosL n [.int .i64 0, .int .i64 0, .int .i64 0, .int .i64 0]).length = n * 4 := by rw [zerosL_length]; rfl
theorem growT_ok (lim n : Nat) (H : AHeap) (hl : lim ≤ H.next) (hn : n ≤ 1000000000) :
   ACalls Tryz.prog lim n_slices_Grow_S_impl_Term_impl_Term [.slice none 0 0, .int .i64 n] H fun v H' => VecT H' H.next v [] ∧ Ext H H' := by
 refine is_slices_Grow_S_impl_Term_impl_Term.go rfl ?_
 unfold c_slices_Grow_S_impl_Term_impl_Term
 refine s_reg ?_
 simp only [o_pure, o_nil, POp.ev, Opd.ev, env0, gu, setD, List.set, xsj, xel]
 have hlt : decide ((n : Int) < 0) = false := by simp
 refine s_test ?_
 simp only [o_pure, o_nil, POp.ev, Opd.ev, gv, setD, xsj, xel, binV, ne_eq, xnt, if_false, hlt]
 refine Test.false_ (s_skip1 ?_)
 simp +decide only [pqn]
 have w0 : IntKind.i64.wrap (0 - ((0 : Nat) : Int)) = 0 := rfl
 have w1 : IntKind.i64.wrap ((n : Int) - 0) = n := by rw [IntKind.wrap_i64]; omega
 refine s_assoc (s_reg ?_)
 simp only [o_pure, o_nil, POp.ev, Opd.ev, gv, setD, List.set, xsj, xel, binV, ne_eq, xnt, if_false, lenV, capV, w0, w1]
 refine s_test ?_
 simp only [o_pure, o_nil, POp.ev, Opd.ev, gv, setD, xsj, xel, binV, ne_eq, xnt, if_false]
 have hgt : decide ((n : Int) > 0) = decide (0 < n) := by rw [Bool.eq_iff_iff]; simp
 rw [hgt]
 refine Test.split (fun h => ?_) (fun h => ?_)
 · have hn0 : 0 < n := by simpa using h
   have hz : appendZH H 4 32 [.int .i64 0, .int .i64 0, .int .i64 0, .int .i64 0] (.slice none 0 0) (.int .i64 n) = some (.slice (some ⟨H.next, 0, some 4⟩) n n, H.alloc (zerosL n [.int .i64 0, .int .i64 0, .int .i64 0, .int .i64 0])) := by
     simp only [appendZH]
     rw [if_pos ⟨by omega, by omega, by omega⟩]
     rfl
   have hs1 : slcV 4 (.slice none 0 0) none (some (.int .i64 0)) none = some (.slice none 0 0) := rfl
   have hs2 : slcV 4 (.slice (some ⟨H.next, 0, some 4⟩) n n) none (some (.int .i64 ((0 : Nat) : Int))) none = some (.slice (some ⟨H.next, 0, some 4⟩) 0 n) := by
     simp [slcV, bounds, sliceB, intV]
   refine s_reg1 ?_
   simp only [o_pure, o_eff, o_nil, POp.ev, Opd.ev, EOp.ev, gv, setD, List.set, Option.map_none, xms, xsj, xel, lenV, capV, hs1, hz, hs2]
   simp +decide only [pqn]
   refine s_reg ?_
   simp only [o_pure, o_nil, POp.ev, Opd.ev, gv, setD, List.set, xsj, xel]
   refine s_ret1 ?_
   simp +decide only [pfr, resV, resOne, gv, xsj, xel]
   refine ⟨.inr ⟨n, some 4, zerosL n [.int .i64 0, .int .i64 0, .int .i64 0, .int .i64 0], rfl, .inr rfl, Nat.lt_succ_self _, alloc_new _ _, rfl, Nat.zero_le _, by rw [zerosL4]; simp⟩, Ext.alloc _ _⟩
 · refine s_skip1 ?_
   simp +decide only [pqn]
   refine s_reg ?_
   simp only [o_pure, o_nil, POp.ev, Opd.ev, gv, setD, List.set, xsj, xel]
   refine s_ret1 ?_
   simp +decide only [pfr, resV, resOne, gv, xsj, xel]
   exact ⟨Vec.nil _ _ _, Ext.refl _⟩
theorem flatten_length_tot (ss : List (List Tm)) : ss.flatten.length = tot ss := by
 unfold tot
 rw [List.length_flatten]
theorem concatT_ok (lim : Nat) (v : Value) (ss : List (List Tm)) (H : AHeap) (hl : lim ≤ H.next) (hv : SlSS H v ss) (hn : tot ss ≤ 100000) (hn2 : ss.length ≤ 100000) :
   ACalls Tryz.prog lim n_slices_Concat_S_impl_Term_impl_Term [v] H fun u H' => SlT H' u ss.flatten ∧ Ext H H' := by
 refine is_slices_Concat_S_impl_Term_impl_Term.go rfl ?_
 unfold c_slices_Concat_S_impl_Term_impl_Term
 refine s_reg ?_
 simp only [o_pure, o_nil, POp.ev, Opd.ev, env0, gu, setD, List.set, xsj, xel]
 refine s_reg ?_
 simp only [o_pure, o_nil, POp.ev, Opd.ev, setD, List.set, xsj, xel]
 refine s_assoc (s_reg ?_)
 simp only [o_pure, o_nil, POp.ev, Opd.ev, gv, setD, List.set, xsj, xel, hv.lenV]
 refine s_block ?_
 refine s_loop1 (fun n e' H' => H' = H ∧ ∃ (i : Nat) (x3 : Value), i + n = ss.length ∧ e' = [v, .slice none 0 0, .int .i64 (tot (ss.take i)), x3, undef, undef, v, .int .i64 ss.length, .int .i64 i, undef, undef, undef]) ss.length ⟨rfl, 0, _, by omega, rfl⟩ ?_
 rintro n e' H ⟨rfl, i, x3, hin, rfl⟩
 refine s_test ?_
 simp only [o_pure, o_nil, POp.ev, Opd.ev, gv, setD, xsj, xel, binV, ne_eq, xnt, if_false]
 refine Test.split (fun hlt => ?_) (fun hlt => ?_)
 · have hlt' : i < ss.length := by simpa using hlt
   refine s_skip1 ?_
   simp +decide only [pqn]
   refine s_block ?_
   obtain ⟨bb, o, s, h1, h2, h3⟩ := hv.at hlt'
   refine s_reg ?_
   simp only [o_pure, o_nil, POp.ev, Opd.ev, gv, setD, List.set, xsj, xel, load1V, h1, h2]
   have hsum := tot_take_succ hlt'
   have hle := tot_take_le ss (i + 1)
   refine s_reg ?_
   simp only [o_pure, o_nil, POp.ev, Opd.ev, gv, setD, List.set, xsj, xel, binV, ne_eq, xnt, if_false, h3.lenV, addN (i := tot (ss.take i)) (j := ss[i].length) (by omega), ← hsum]
   have hng : decide ((tot (ss.take (i + 1)) : Int) < 0) = false := by simp
   refine s_test1 ?_
   simp only [o_pure, o_nil, POp.ev, Opd.ev, gv, setD, xsj, xel, binV, ne_eq, xnt, if_false, hng]
   refine Test.false_ (s_skip1 ?_)
   simp +decide only [pqn, pbn]
   refine s_reg1 ?_
   simp only [o_pure, o_nil, POp.ev, Opd.ev, gv, setD, List.set, xsj, xel, binV, ne_eq, xnt, if_false, add1 (i := i) (by omega)]
   simp +decide only [pqn]
   exact Round.mk (n - 1) (by omega) ⟨rfl, i + 1, _, by omega, rfl⟩
 · have hge : ss.length ≤ i := by simp at hlt; omega
   rw [List.take_of_length_le hge]
   obtain ⟨i', rfl⟩ : ∃ i', i' = i := ⟨i, rfl⟩
   refine s_exit1 ?_
   simp +decide only [pqn, pqe, pbe, reduceIte]
   refine s_reg ?_
   simp only [o_pure, o_callF, POp.ev, Opd.ev, gv, setD, List.map, xsj, xel]
   refine (growT_ok lim _ _ hl (by omega)).mono ?_
   rintro u H1 ⟨hu, hx1⟩
   simp only [o_cont, o_pure, o_nil, POp.ev, Opd.ev, gv, setD, List.set, xsj, xel]
   refine s_assoc (s_reg ?_)
   simp only [o_pure, o_nil, POp.ev, Opd.ev, gv, setD, List.set, xsj, xel, hv.lenV]
   refine s_block ?_
   refine s_loop1 (fun n e' H' => ∃ (i b : Nat) (x5 u : Value), i + n = ss.length ∧ H.next ≤ b ∧ VecT H' b u (ss.take i).flatten ∧ Ext H H' ∧ e' = [v, .slice none 0 0, .int .i64 (tot ss), x3, u, x5, v, .int .i64 ss.length, .int .i64 i', v, .int .i64 ss.length, .int .i64 i]) ss.length ⟨0, _, _, _, by omega, Nat.le_refl _, hu, hx1, rfl⟩ ?_
   clear hu hx1
   rintro n e' H1 ⟨i, b, x5, u, hin, hb, hu, hx1, rfl⟩
   refine s_test ?_
   simp only [o_pure, o_nil, POp.ev, Opd.ev, gv, setD, xsj, xel, binV, ne_eq, xnt, if_false]
   refine Test.split (fun hlt => ?_) (fun hlt => ?_)
   · have hlt' : i < ss.length := by simpa using hlt
     refine s_skip1 ?_
     simp +decide only [pqn]
     refine s_block ?_
     obtain ⟨bb, o, s, h1, h2, h3⟩ := (hv.ext hx1).at hlt'
     refine s_reg ?_
     simp only [o_pure, o_nil, POp.ev, Opd.ev, gv, setD, List.set, xsj, xel, load1V, h1, h2]
     have hsum := tot_take_succ hlt'
     have hle := tot_take_le ss (i + 1)
     obtain ⟨u', H2, b', k1, k2, k3, k4⟩ := appendT2 (lim := lim) hu h3 (by omega) (by rw [flatten_length_tot]; omega)
     refine s_reg1 ?_
     simp only [o_pure, o_eff, o_nil, POp.ev, Opd.ev, EOp.ev, gv, setD, List.set, xsj, xel, k1]
     simp +decide only [pqn, pbn]
     refine s_reg1 ?_
     simp only [o_pure, o_nil, POp.ev, Opd.ev, gv, setD, List.set, xsj, xel, binV, ne_eq, xnt, if_false, add1 (i := i) (by omega)]
     simp +decide only [pqn]
     have hnx1 := hx1.next
     refine Round.mk (n - 1) (by omega) ⟨i + 1, b', _, u', by omega, by rcases k3 with rfl | k3 <;> omega, ?_, k4.ext hx1 hb, rfl⟩
     rw [List.take_succ_eq_append_getElem hlt', List.flatten_append]
     simpa using k2
   · have hge : ss.length ≤ i := by simp at hlt; omega
     rw [List.take_of_length_le hge] at hu
     refine s_exit1 ?_
     simp +decide only [pqn, pqe, pbe, reduceIte]
     refine s_reg ?_
     simp only [o_pure, o_nil, POp.ev, Opd.ev, gv, setD, List.set, xsj, xel]
     refine s_ret1 ?_
     simp +decide only [pfr, resV, resOne, gv, xsj, xel]
     exact ⟨Vec.sl hu, hx1⟩
def sc (n : Int) (t : Tm) : Tm := { t with c := W (t.c * n) }
def mixF (n : Int) (p q : List Tm) : List Tm := q.foldl (fun acc t => if n = 0 then acc else putF (sc n t) acc) p
theorem mixF_take {n : Int} {p q : List Tm} {j : Nat} (h : j < q.length) : mixF n p (q.take (j + 1)) = if n = 0 then mixF n p (q.take j) else putF (sc n q[j]) (mixF n p (q.take j)) := by
 unfold mixF
 rw [List.take_succ_eq_append_getElem h, List.foldl_append]
 rfl
theorem mixF_length (n : Int) : ∀ (q p : List Tm), (mixF n p q).length ≤ p.length + q.length
 | [], p => by simp [mixF]
 | t :: q, p => by
   have h := mixF_length n q (if n = 0 then p else putF (sc n t) p)
   have h2 := putF_length (sc n t) p
   unfold mixF at h ⊢
   rw [List.foldl_cons, List.length_cons]
   split at h <;> simp_all <;> omega
theorem mixF_ex {n : Int} : ∀ {q p : List Tm}, (∀ t ∈ p, exB t) → (∀ t ∈ q, exB t) → ∀ t ∈ mixF n p q, exB t
 | [], p, hp, _ => hp
 | u :: q, p, hp, hq => by
   have : mixF n p (u :: q) = mixF n (if n = 0 then p else putF (sc n u) p) q := rfl
   rw [this]
   refine mixF_ex (fun t ht => ?_) (fun t ht => hq t (by simp [ht]))
   split at ht
   · exact hp t ht
   · rcases mem_putF ht with ht | ht
     · exact hp t ht
     · have h1 := hq u (by simp)
       rw [ordT_zero] at ht
       unfold exB at h1 ⊢
       simp only [sc] at ht
       omega
theorem mixF_can {n : Int} : ∀ {q p : List Tm}, Can p → Can (mixF n p q)
 | [], p, h => h
 | u :: q, p, h => by
   have : mixF n p (u :: q) = mixF n (if n = 0 then p else putF (sc n u) p) q := rfl
   rw [this]
   refine mixF_can ?_
   split
   · exact h
   · exact h.put (W_in _)
theorem cs_sc0 (k : Tm) : ∀ q : List Tm, cs k (q.map (sc 0)) = 0
 | [] => rfl
 | t :: q => by
   have : (sc 0 t).c = 0 := by simp [sc, W, IntKind.wrap_i64]
   rw [List.map_cons, cs, cs_sc0 k q, this]
   split <;> rfl
theorem cs_mixF (n : Int) (k : Tm) : ∀ q p : List Tm, cg (cs k (mixF n p q)) (cs k p + cs k (q.map (sc n)))
 | [], p => cg.of_eq (by simp [mixF, cs])
 | u :: q, p => by
   have e : mixF n p (u :: q) = mixF n (if n = 0 then p else putF (sc n u) p) q := rfl
   rw [e]
   refine (cs_mixF n k q _).trans ?_
   by_cases hn : n = 0
   · subst hn
     rw [if_pos rfl, cs_sc0, cs_sc0]
     exact cg.refl _
   · rw [if_neg hn]
     refine ((cs_putF k (sc n u) p).add (cg.refl (cs k (q.map (sc n))))).trans (cg.of_eq ?_)
     rw [List.map_cons]
     simp only [cs]
     omega
def mixI (n : Int) (p q : List Tm) : List Tm := coll (p ++ coll (prodL q [⟨n, 0, 0, 0⟩]))
theorem prodL_sc (n : Int) (q : List Tm) : prodL q [⟨n, 0, 0, 0⟩] = q.map (sc n) := by
 induction q with
 | nil => rfl
 | cons t q ih =>
   have : prodL (t :: q) [⟨n, 0, 0, 0⟩] = mulT t ⟨n, 0, 0, 0⟩ :: prodL q [⟨n, 0, 0, 0⟩] := rfl
   rw [this, ih, List.map_cons]
   congr 1
   simp [mulT, sc]
theorem mix_same {n : Int} {p q : List Tm} (hp : Can p) : mixI n p q = mixF n p q := by
 have hq : Can (coll (prodL q [⟨n, 0, 0, 0⟩])) := can_coll (fun t ht => by
   rw [prodL_sc] at ht
   obtain ⟨u, _, rfl⟩ := List.mem_map.1 ht
   exact W_in _)
 refine Can.uniq (can_coll fun t ht => ?_) (mixF_can hp) fun k => ?_
 · rcases List.mem_append.1 ht with ht | ht
   · exact (hp.nz t ht).2
   · exact (hq.nz t ht).2
 · unfold mixI
   refine (cs_coll k _).trans ?_
   rw [cs_append]
   refine ((cg.refl _).add (cs_coll k _)).trans ?_
   rw [prodL_sc]
   exact (cs_mixF n k q p).symm
def mixL (ss : List (List Tm)) (i k : Nat) (n : Int) : List (List Tm) := ss.set i (mixF n (ss.getD i []) (ss.getD k []))
theorem mixL_get {ss : List (List Tm)} {i k j : Nat} {n : Int} (hi : i < ss.length) (hk : k < ss.length) (hj : j < ss.length) : (mixL ss i k n)[j]? = some (if j = i then mixF n ss[i] ss[k] else ss[j]) := by
 unfold mixL
 rw [List.getElem?_set, List.getD_eq_getElem?_getD, List.getD_eq_getElem?_getD, List.getElem?_eq_getElem hi, List.getElem?_eq_getElem hk, List.getElem?_eq_getElem hj]
 by_cases h : j = i
 · subst h
   simp [hj]
 · rw [if_neg (fun e => h e.symm), if_neg h]
theorem mixL_length (ss : List (List Tm)) (i k : Nat) (n : Int) : (mixL ss i k n).length = ss.length := by simp [mixL]
def mixA (ss : List (List Tm)) (i k n : Int) : Bool := goodSS ss && inU ss.length i && inU ss.length k && !(i == k) && (decide (-100 ≤ n) && decide (n ≤ 100))
def mixR (ss : List (List Tm)) (i k n : Int) : Option (List (List Tm)) := if mixA ss i k n && goodSS (mixL ss i.toNat k.toNat n) then some (mixL ss i.toNat k.toNat n) else none
theorem good_can {p : List Tm} (h1 : ∀ t ∈ p, okTm t = true ∧ t.c ≠ 0) (h2 : Sorted p) : Can p :=
 ⟨h2.sor, fun t ht => ⟨(h1 t ht).2, by have := okTm_b (h1 t ht).1; unfold inR; omega⟩⟩
theorem ok_exS {t : Tm} (h : okTm t = true) : exS t := by have := okTm_b h; unfold exS; omega
theorem ok_exB {t : Tm} (h : okTm t = true) : exB t := by have := okTm_b h; unfold exB; omega
theorem mixR_small {ss : List (List Tm)} {i k n : Int} {l : List (List Tm)} (h : mixR ss i k n = some l) : l.length ≤ 3 ∧ ∀ p ∈ l, p.length ≤ 20 := by
 unfold mixR at h
 split at h
 · rename_i hg
   simp only [Bool.and_eq_true] at hg
   cases h
   obtain ⟨g0, g1, g2⟩ := goodSS_all hg.2
   exact ⟨g1, fun p hp => (g2 p hp).1⟩
 · cases h
theorem sMix_ok (lim : Nat) (s : Value) (ss : List (List Tm)) (i k n : Int) (H : AHeap) (hl : lim ≤ H.next) (hs : SlSS H s ss) (hn : ss.length ≤ 1000000) (hn2 : ∀ p ∈ ss, p.length ≤ 1000000) :
   ACalls Tryz.prog lim n_spec_MixEquations [s, .int .i64 i, .int .i64 k, .int .i64 n] H fun v H' => ResSS H' H.next v (mixR ss i k n) ∧ Ext H H' := by
 refine is_spec_MixEquations.go rfl ?_
 unfold c_spec_MixEquations
 refine s_reg ?_
 simp only [o_pure, o_nil, POp.ev, Opd.ev, env0, gu, setD, List.set, xsj, xel]
 refine s_test_I (!mixA ss i k n) (Ext H) ?_ (fun H1 hx hg => ?_) (fun H1 hx hg => ?_)
 · simp only [o_pure, o_callF, POp.ev, Opd.ev, gv, setD, List.map, xsj, xel]
   refine (tfAsked_ok lim _ _ _ _ hl hs hn hn2).mono ?_
   rintro _ H1 ⟨rfl, hx⟩
   have hnx := hx.next
   unfold mixA
   cases hgi : goodSS ss && inU ss.length i
   · simp only [o_cont, o_pure, o_guard, gk_tf, o_nil, POp.ev, Opd.ev, gv, setD, xsj, xel, pickV, unV, Bool.not_false]
     simp [hx]
   · simp only [o_cont, o_pure, o_callF, o_guard, gk_ff, POp.ev, Opd.ev, gv, setD, List.map, xsj, xel, unV, Bool.not_true]
     refine (tfAsked_ok lim _ _ _ _ (by omega) (hs.ext hx) hn hn2).mono ?_
     rintro _ H2 ⟨rfl, hx2⟩
     have hx12 := hx.trans hx2
     simp only [Bool.and_eq_true] at hgi
     simp only [hgi.1, Bool.true_and]
     cases hgk : inU ss.length k
     · simp only [o_cont, o_pure, o_guard, gk_ff, gk_tf, o_nil, POp.ev, Opd.ev, gv, setD, xsj, xel, pickV, unV, Bool.not_false]
       simp [hx12]
     · simp only [o_cont, o_pure, o_guard, gk_ff, POp.ev, Opd.ev, gv, setD, xsj, xel, pickV, binV, unV, ne_eq, xnt, if_false, Bool.not_true]
       cases hik : (i == k)
       · simp only [o_pure, o_callF, o_guard, gk_ff, POp.ev, Opd.ev, gv, setD, List.map, xsj, xel, Bool.not_false]
         refine (l1In_ok _ _ _ _ _).eq ?_
         simp only [o_cont, o_pure, o_guard, gk_ff, o_nil, POp.ev, Opd.ev, gv, setD, xsj, xel, pickV, unV]
         simp [hx12]
       · simp only [o_pure, o_guard, gk_tf, o_nil, POp.ev, Opd.ev, gv, setD, xsj, xel, pickV, Bool.not_true]
         simp [hx12]
 · simp only [Bool.not_eq_true'] at hg
   refine s_reg ?_
   simp only [o_pure, o_nil, POp.ev, Opd.ev, setD, List.set, xsj, xel]
   refine s_ret1 ?_
   simp +decide only [pqr, pfr, resV, resOne, resL, gv, xsj, xel, Option.bind_some, xms]
   refine ⟨⟨.slice none 0 0, ?_, ?_⟩, hx⟩
   · simp [mixR, hg]
   · simp [mixR, hg]
     exact .inl ⟨rfl, rfl⟩
 · simp only [Bool.not_eq_false'] at hg
   have hgi := hg
   simp only [mixA, inU, Bool.and_eq_true, decide_eq_true_eq, Bool.not_eq_true', beq_eq_false_iff_ne] at hgi
   obtain ⟨⟨⟨⟨hgd, hi1, hi2⟩, hk1, hk2⟩, hik⟩, hn1, hn100⟩ := hgi
   obtain ⟨i, rfl⟩ : ∃ n : Nat, i = n := ⟨i.toNat, by omega⟩
   obtain ⟨k, rfl⟩ : ∃ n : Nat, k = n := ⟨k.toNat, by omega⟩
   have hiL : i < ss.length := by omega
   have hkL : k < ss.length := by omega
   obtain ⟨_, hl3, hall⟩ := goodSS_all hgd
   have hRl := mixL_length ss i k n
   have hs1 := hs.ext hx
   have hnx1 := hx.next
   refine s_skip1 ?_
   simp +decide only [pqn]
   refine s_reg ?_
   simp only [o_pure, o_nil, POp.ev, Opd.ev, setD, List.set, xsj, xel]
   refine s_assoc (s_reg ?_)
   simp only [o_pure, o_nil, POp.ev, Opd.ev, gv, setD, List.set, xsj, xel, hs.lenV]
   refine s_block ?_
   refine s_loop1 (fun j e' H' => ∃ (m b : Nat) (vs : List Value) (bs : List Nat) (v x7 x8 x9 x10 x14 x15 x16 : Value), m + j = ss.length ∧ GrowX H' H1.next b vs bs v ((mixL ss i k n).take m) ∧ Ext H1 H' ∧ e' = [s, .int .i64 i, .int .i64 k, .int .i64 n, .slice none 0 0, .bool false, v, x7, x8, x9, x10, s, .int .i64 ss.length, .int .i64 m, x14, x15, x16]) ss.length ⟨0, H1.next, [], [], _, _, _, _, _, _, _, _, by omega, GrowX.nil' _, Ext.refl _, rfl⟩ ?_
   rintro j e' H' ⟨m, b, vs, bs, v, x7, x8, x9, x10, x14, x15, x16, hmj, hG, hx', rfl⟩
   have hnx2 := hx'.next
   refine s_test ?_
   simp only [o_pure, o_nil, POp.ev, Opd.ev, gv, setD, xsj, xel, binV, ne_eq, xnt, if_false]
   refine Test.split (fun hlt => ?_) (fun hlt => ?_)
   · have hlt' : m < ss.length := by simpa using hlt
     obtain ⟨b1, o1, s1, u1, u2, u3⟩ := (hs1.ext hx').at hlt'
     have hget := mixL_get (n := n) hiL hkL hlt'
     have hp20 := hall _ (List.getElem_mem hlt')
     have hq20 := hall _ (List.getElem_mem hkL)
     refine s_skip1 ?_
     simp +decide only [pqn]
     refine s_block ?_
     refine s_reg ?_
     simp only [o_pure, o_nil, POp.ev, Opd.ev, gv, setD, List.set, xsj, xel, load1V, u1, u2]
     refine s_reg ?_
     simp only [o_pure, o_callF, POp.ev, Opd.ev, gv, setD, List.map, xsj, xel]
     refine (tfOwn_ok lim _ _ _ (by omega) u3 (by omega)).mono ?_
     rintro v9 H2 ⟨c0, hc1, hc2, hv9, hx2⟩
     have hnx3 := hx2.next
     simp only [o_cont, o_pure, o_nil, POp.ev, Opd.ev, gv, setD, List.set, xsj, xel]
     refine s_cut1 (fun e' H'' => ∃ (c : Nat) (v9 x10 x14 x15 x16 : Value), VecT H'' c v9 (if m = i then mixF n ss[i] ss[k] else ss[m]) ∧ H'.next ≤ c ∧ c ≤ H''.next ∧ Ext H' H'' ∧ e' = [s, .int .i64 i, .int .i64 k, .int .i64 n, .slice none 0 0, .bool false, v, .int .i64 m, s1, v9, x10, s, .int .i64 ss.length, .int .i64 m, x14, x15, x16]) ?_ ?_
     · by_cases e1 : m = i
       · have d1 : ((m : Int) == (i : Int)) = true := by simp [e1]
         obtain ⟨b2, o2, s2, k1, k2, k3⟩ := ((hs1.ext hx').ext hx2).at hkL
         refine s_test1 ?_
         simp only [o_pure, o_nil, POp.ev, Opd.ev, gv, setD, xsj, xel, binV, ne_eq, xnt, if_false, d1]
         refine Test.true_ (s_reg ?_)
         simp only [o_pure, o_nil, POp.ev, Opd.ev, gv, setD, List.set, xsj, xel, load1V, k1, k2, k3.lenV]
         refine s_block1 ?_
         refine s_loop1 (fun kk e' H3 => ∃ (j2 c : Nat) (v9 x10 : Value), j2 + kk = ss[k].length ∧ VecT H3 c v9 (mixF n ss[m] (ss[k].take j2)) ∧ H'.next ≤ c ∧ c ≤ H3.next ∧ Ext H2 H3 ∧ e' = [s, .int .i64 i, .int .i64 k, .int .i64 n, .slice none 0 0, .bool false, v, .int .i64 m, s1, v9, x10, s, .int .i64 ss.length, .int .i64 m, s2, .int .i64 ss[k].length, .int .i64 j2]) ss[k].length ⟨0, c0, v9, _, by omega, hv9, hc1, hc2, Ext.refl _, rfl⟩ ?_
         clear hv9 hc1 hc2 k1 k2
         rintro kk e' H3 ⟨j2, c, v9', x10', hjk, hv, hc1, hc2, hx3, rfl⟩
         have hnx4 := hx3.next
         refine s_test ?_
         simp only [o_pure, o_nil, POp.ev, Opd.ev, gv, setD, xsj, xel, binV, ne_eq, xnt, if_false]
         refine Test.split (fun hlt2 => ?_) (fun hlt2 => ?_)
         · have hlt3 : j2 < ss[k].length := by simpa using hlt2
           obtain ⟨b5, o5, h5, a5⟩ := (k3.ext hx3).at hlt3
           refine s_skip1 ?_
           simp +decide only [pqn]
           refine s_block ?_
           refine s_reg ?_
           simp only [o_pure, o_eff, o_nil, POp.ev, Opd.ev, EOp.ev, gv, setD, List.set, xsj, xel, h5, a5.all, store4_new (lim := lim) (H := H3) (by omega)]
           have hB := BoxT.mk' H3 ss[k][j2]
           generalize H3.alloc (tc ss[k][j2]) = H4 at hB ⊢
           generalize H3.next = q at hB hnx4 hc2 ⊢
           obtain ⟨cs4, t4, hB5⟩ := hB.put0 (lim := lim) (by have := hB.ge; omega) (W (ss[k][j2].c * n))
           refine s_reg ?_
           simp only [o_pure, o_eff, o_nil, POp.ev, Opd.ev, EOp.ev, gv, setD, xsj, xel, binV, load1V, fadV, ne_eq, xnt, if_false, Nat.add_zero, hB.c0, t4]
           generalize H4.put q cs4 = H5 at hB5 ⊢
           clear t4 hB cs4 H4
           have hx5 := hB5.ext
           have hq5 := hB5.lt
           have hq6 := hB5.ge
           replace hv := VecT.ext hv hx5
           have hmt := mixF_take (n := n) (p := ss[m]) hlt3
           refine s_cut0 (fun e' H6 => ∃ (c : Nat) (v9 : Value), VecT H6 c v9 (mixF n ss[m] (ss[k].take (j2 + 1))) ∧ H'.next ≤ c ∧ c ≤ H6.next ∧ Ext H2 H6 ∧ e' = [s, .int .i64 i, .int .i64 k, .int .i64 n, .slice none 0 0, .bool false, v, .int .i64 m, s1, v9, .pointer (some ⟨q, 0, none⟩), s, .int .i64 ss.length, .int .i64 m, s2, .int .i64 ss[k].length, .int .i64 j2]) ?_ ?_
           · refine s_test1 ?_
             simp only [o_pure, o_nil, POp.ev, Opd.ev, gv, setD, xsj, xel, binV, ne_eq, xnt, if_false]
             refine Test.split (fun hg0 => ?_) (fun hg0 => ?_)
             · have hn0 : n ≠ 0 := by simpa using hg0
               rw [if_neg hn0] at hmt
               have hlm := mixF_length n (ss[k].take j2) ss[m]
               have hexP : ∀ t ∈ mixF n ss[m] (ss[k].take j2), exB t := mixF_ex (fun t ht => ok_exB (hp20.2.1 t ht).1) (fun t ht => ok_exB (hq20.2.1 t (List.mem_of_mem_take ht)).1)
               have hexQ : exB (sc n ss[k][j2]) := ok_exB (t := ss[k][j2]) (hq20.2.1 _ (List.getElem_mem hlt3)).1
               refine s_reg1 ?_
               have hall5 : loadNV H5 4 (.pointer (some ⟨q, 0, none⟩)) = some (tv (sc n ss[k][j2])) := hB5.all
               simp only [o_pure, o_callF, POp.ev, Opd.ev, gv, setD, List.map, xsj, xel, hall5]
               refine (putG_ok lim v9' _ _ _ (by omega) (Vec.sl hv) (by rw [List.length_take] at hlm; omega) hexP hexQ).mono ?_
               rintro v10 H6 ⟨c6, g1, g2, g3, g4⟩
               simp only [o_cont, o_pure, o_nil, POp.ev, Opd.ev, gv, setD, List.set, xsj, xel]
               simp +decide only [pqn]
               rw [hmt]
               exact ⟨c6, v10, g3, by omega, g2, (hx3.trans hx5).trans g4, rfl⟩
             · have hn0 : n = 0 := by simpa using hg0
               rw [if_pos hn0] at hmt
               refine s_skip1 ?_
               simp +decide only [pqn]
               rw [hmt]
               exact ⟨c, v9', hv, hc1, by omega, hx3.trans hx5, rfl⟩
           rintro e6 H6 ⟨c6, v6, g1, g2, g3, g4, rfl⟩
           simp +decide only [pqn, pbn]
           refine s_reg1 ?_
           simp only [o_pure, o_nil, POp.ev, Opd.ev, gv, setD, List.set, xsj, xel, binV, ne_eq, xnt, if_false, add1 (i := j2) (by omega)]
           simp +decide only [pqn]
           exact Round.mk (kk - 1) (by omega) ⟨j2 + 1, c6, v6, _, by omega, g1, g2, g3, g4, rfl⟩
         · have hge : j2 = ss[k].length := by simp at hlt2; omega
           subst hge
           rw [List.take_length] at hv
           refine s_exit1 ?_
           simp +decide only [pqn, pqe, pbe, reduceIte]
           subst e1
           rw [if_pos rfl]
           exact ⟨c, v9', _, _, _, _, hv, hc1, hc2, hx2.trans hx3, rfl⟩
       · have d1 : ((m : Int) == (i : Int)) = false := by simp; omega
         refine s_test1 ?_
         simp only [o_pure, o_nil, POp.ev, Opd.ev, gv, setD, xsj, xel, binV, ne_eq, xnt, if_false, d1]
         refine Test.false_ (s_skip1 ?_)
         simp +decide only [pqn]
         rw [if_neg e1]
         exact ⟨c0, v9, _, _, _, _, hv9, hc1, hc2, hx2, rfl⟩
     rintro e'' H'' ⟨c, v9', x10', x14', x15', x16', hv4, hc1', hc2', hx4, rfl⟩
     have hcv : cellsV v9' = some [v9'] := Vec.cellsV hv4
     obtain ⟨v', H3, b', g1, g2, g3⟩ := hG.push (lim := lim) (by omega) hx' (Nat.le_refl _) (by omega) hx4 hc1' hc2' hv4 (by rw [List.length_take]; omega)
     refine s_reg1 ?_
     simp only [o_pure, o_eff, o_nil, POp.ev, Opd.ev, EOp.ev, gv, setD, List.set, List.map, xsj, xel, bsliceV _ _ hcv, g1]
     simp +decide only [pqn, pbn]
     refine s_reg1 ?_
     simp only [o_pure, o_nil, POp.ev, Opd.ev, gv, setD, List.set, xsj, xel, binV, ne_eq, xnt, if_false, add1 (i := m) (by omega)]
     simp +decide only [pqn]
     refine Round.mk (j - 1) (by omega) ⟨m + 1, b', vs ++ [v9'], bs ++ [c], v', _, _, _, _, _, _, _, by omega, ?_, g3, rfl⟩
     rw [List.take_add_one, hget]
     exact g2
   · have hge : m = ss.length := by simp at hlt; omega
     subst hge
     rw [List.take_of_length_le (by omega)] at hG
     refine s_exit1 ?_
     simp +decide only [pqn, pqe, pbe, reduceIte]
     have hmem : ∀ p ∈ mixL ss i k n, p.length ≤ 1000000 := by
       intro p hp
       obtain ⟨j, hj, rfl⟩ := List.getElem_of_mem hp
       rw [hRl] at hj
       have := mixL_get (n := n) hiL hkL hj
       rw [List.getElem?_eq_getElem (by omega)] at this
       rw [Option.some.inj this]
       split
       · have := mixF_length n ss[k] ss[i]
         have := (hall _ (List.getElem_mem hiL)).1
         have := (hall _ (List.getElem_mem hkL)).1
         omega
       · have := (hall _ (List.getElem_mem hj)).1
         omega
     have hOwn := hG.own
     have hmR : mixR ss i k n = if goodSS (mixL ss i k n) then some (mixL ss i k n) else none := by
       unfold mixR
       rw [hg]
       simp
     rw [hmR]
     refine s_test ?_
     simp only [o_pure, o_callF, POp.ev, Opd.ev, gv, setD, List.map, xsj, xel]
     refine (poSystem_ok lim _ _ _ (by omega) hOwn.slss (by omega) hmem).mono ?_
     rintro _ H3 ⟨rfl, hx3⟩
     have hnx3 := hx3.next
     simp only [o_cont, o_pure, o_nil, POp.ev, Opd.ev, gv, setD, xsj, xel, unV]
     cases hgg : goodSS (mixL ss i k n)
     · refine Test.true_ (s_reg ?_)
       simp only [o_pure, o_nil, POp.ev, Opd.ev, setD, List.set, xsj, xel, if_false, Bool.false_eq_true]
       refine s_ret1 ?_
       simp +decide only [pqr, pfr, resV, resOne, resL, gv, xsj, xel, Option.bind_some, xms]
       exact ⟨⟨_, rfl, .inl ⟨rfl, rfl⟩⟩, (hx.trans hx').trans hx3⟩
     · refine Test.false_ (s_skip1 ?_)
       simp +decide only [pqn, reduceIte]
       refine s_reg ?_
       simp only [o_pure, o_nil, POp.ev, Opd.ev, gv, setD, List.set, xsj, xel]
       refine s_ret1 ?_
       simp +decide only [pfr, resV, resOne, resL, gv, xsj, xel, Option.bind_some, xms]
       exact ⟨⟨v, rfl, (hOwn.ext hx3).wide hnx1 hnx3⟩, (hx.trans hx').trans hx3⟩
theorem fill2 {a b z1 z2 : Value} (ha : cellsV a = some [a]) (hb : cellsV b = some [b]) : fillV [z1, z2] [(0, 1, a), (1, 1, b)] = some [a, b] := by
 simp [fillV, ha, hb, putL]
theorem bslice2 (H : AHeap) {a b z1 z2 : Value} (ha : cellsV a = some [a]) (hb : cellsV b = some [b]) : bsliceH H 2 [z1, z2] [(0, 1, a), (1, 1, b)] = some (.slice (some ⟨H.next, 0, some 0⟩) 2 2, H.alloc [a, b]) := by
 simp [bsliceH, fill2 ha hb]
theorem slss_two {H : AHeap} {a b : Value} {p q : List Tm} (ha : SlT H a p) (hb : SlT H b q) : SlSS (H.alloc [a, b]) (.slice (some ⟨H.next, 0, some 0⟩) 2 2) [p, q] := by
 have hx := Ext.alloc H [a, b]
 refine ⟨[a, b], Vec.sl (Vec.lit (H := H) (n := 2) (sz := 1) (cells := [a, b]) rfl), fun i r hr => ?_⟩
 match i, hr with
 | 0, hr => simp at hr; subst hr; exact ⟨a, rfl, ha.ext hx⟩
 | 1, hr => simp at hr; subst hr; exact ⟨b, rfl, hb.ext hx⟩
theorem OwnX.setE {lim lo hi : Nat} {H : AHeap} {b : Nat} {vs : List Value} {bs : List Nat} {v s : Value} {ss : List (List Tm)} {p : List Tm} {c i : Nat} (h : OwnX H lo hi b vs bs v ss) (hl : lim ≤ lo) (hi' : i < ss.length) (hc1 : hi ≤ c) (hc2 : c < H.next) (hp : VecT H c s p) :
   ∃ H', iadV 1 v (.int .i64 i) = some (.pointer (some ⟨b, i, none⟩)) ∧ storeH lim H 1 (.pointer (some ⟨b, i, none⟩)) s = some (undef, H') ∧ OwnX H' lo H'.next b (vs.set i s) (bs.set i c) v (ss.set i p) ∧ Chg b H H' ∧ H'.next = H.next := by
 obtain ⟨h1, h2, h3, h4, h5, h6, h7⟩ := h
 have i1 := Vec.iad h1 .i64 hi'
 rw [Nat.mul_one] at i1
 obtain ⟨cs, t1, v5⟩ := h1.put1 (lim := lim) (by omega) (Vec.cellsV hp) hi'
 have hch := Chg.put b H cs
 have hvl := h1.clen
 have hbs : ∀ x ∈ bs.set i c, x = c ∨ x ∈ bs := by
   intro x hx
   rcases List.mem_or_eq_of_mem_set hx with hx | hx
   · exact .inr hx
   · exact .inl hx
 have hne : ∀ x ∈ bs, x ≠ c := fun x hx e => by have := h6 x hx; omega
 refine ⟨_, i1, t1, ⟨?_, by simp [h2], ⟨h3.1, by show b < H.next; omega⟩, ?_, ?_, ?_, ?_⟩, hch, rfl⟩
 · rw [List.length_set]; exact v5
 · have h4' := List.pairwise_iff_getElem.1 h4
   refine List.pairwise_iff_getElem.2 (fun j1 j2 hj1 hj2 hlt e => ?_)
   rw [List.length_set] at hj1 hj2
   rw [List.getElem_set, List.getElem_set] at e
   by_cases e1 : i = j1
   · have e2 : ¬ i = j2 := by omega
     rw [if_pos e1, if_neg e2] at e
     exact hne _ (List.getElem_mem hj2) e.symm
   · by_cases e2 : i = j2
     · rw [if_neg e1, if_pos e2] at e
       exact hne _ (List.getElem_mem hj1) e
     · rw [if_neg e1, if_neg e2] at e
       exact h4' j1 j2 hj1 hj2 hlt e
 · intro hm
   rcases hbs b hm with e | e
   · omega
   · exact h5 e
 · intro x hx
   rcases hbs x hx with rfl | hx
   · exact ⟨by omega, hc2⟩
   · have := h6 x hx
     exact ⟨this.1, by show x < H.next; omega⟩
 · intro j q hq
   rw [List.getElem?_set] at hq
   by_cases e : i = j
   · subst e
     rw [if_pos rfl, if_pos hi'] at hq
     cases hq
     refine ⟨s, c, by rw [List.getElem?_set, if_pos rfl, if_pos (by omega)], by rw [List.getElem?_set, if_pos rfl, if_pos (by omega)], VecT.chg hp hch (by omega)⟩
   · rw [if_neg e] at hq
     obtain ⟨s', c', m1, m2, m3⟩ := h7 j q hq
     refine ⟨s', c', by rw [List.getElem?_set, if_neg e]; exact m1, by rw [List.getElem?_set, if_neg e]; exact m2, VecT.chg m3 hch (fun e2 => h5 (e2 ▸ List.mem_of_getElem? m2))⟩
theorem iMix_ok (lim : Nat) (s : Value) (ss : List (List Tm)) (i k n : Int) (H : AHeap) (hl : lim ≤ H.next) (hs : SlSS H s ss) (hn : ss.length ≤ 1000000) (hn2 : ∀ p ∈ ss, p.length ≤ 1000000) :
   ACalls Tryz.prog lim n_impl_MixEquations [s, .int .i64 i, .int .i64 k, .int .i64 n] H fun v H' => ResSS H' H.next v (mixR ss i k n) ∧ Ext H H' := by
 refine is_impl_MixEquations.go rfl ?_
 unfold c_impl_MixEquations
 have hsub : IntKind.i64.wrap ((ss.length : Int) - 1) = (ss.length : Int) - 1 := by rw [IntKind.wrap_i64]; omega
 refine s_reg ?_
 simp only [o_pure, o_nil, POp.ev, Opd.ev, env0, gu, setD, List.set, xsj, xel]
 refine s_test_I (!mixA ss i k n) (Ext H) ?_ (fun H1 hx hg => ?_) (fun H1 hx hg => ?_)
 · simp only [o_pure, o_callF, POp.ev, Opd.ev, gv, setD, List.map, xsj, xel]
   refine (isSystem_ok lim _ _ _ hl hs hn hn2).mono ?_
   rintro _ H1 ⟨rfl, hx⟩
   unfold mixA inU
   cases hg : goodSS ss
   · simp only [o_cont, o_pure, o_guard, gk_tf, o_nil, POp.ev, Opd.ev, gv, setD, xsj, xel, pickV, unV, Bool.not_false]
     simp [hx]
   · simp only [o_cont, o_pure, o_callF, o_guard, gk_ff, POp.ev, Opd.ev, gv, setD, List.map, xsj, xel, binV, unV, ne_eq, xnt, if_false, Bool.not_true, hs.lenV, hsub]
     refine (inside_ok _ _ _ _ _).eq ?_
     cases h1 : decide (0 ≤ i) && decide (i ≤ (ss.length : Int) - 1)
     · simp only [o_cont, o_pure, o_guard, gk_ff, gk_tf, o_nil, POp.ev, Opd.ev, gv, setD, xsj, xel, pickV, unV, Bool.not_false]
       simp [hx]
     · simp only [o_cont, o_pure, o_callF, o_guard, gk_ff, POp.ev, Opd.ev, gv, setD, List.map, xsj, xel, pickV, binV, unV, ne_eq, xnt, if_false, Bool.not_true, hs.lenV, hsub]
       refine (inside_ok _ _ _ _ _).eq ?_
       cases h2 : decide (0 ≤ k) && decide (k ≤ (ss.length : Int) - 1)
       · simp only [o_cont, o_pure, o_guard, gk_ff, gk_tf, o_nil, POp.ev, Opd.ev, gv, setD, xsj, xel, pickV, unV, Bool.not_false]
         simp [hx]
       · simp only [o_cont, o_pure, o_guard, gk_ff, POp.ev, Opd.ev, gv, setD, xsj, xel, pickV, binV, unV, ne_eq, xnt, if_false, Bool.not_true]
         cases hik : (i == k)
         · simp only [o_pure, o_callF, o_guard, gk_ff, POp.ev, Opd.ev, gv, setD, List.map, xsj, xel, Bool.not_false]
           refine (inside_ok _ _ _ _ _).eq ?_
           simp only [o_cont, o_pure, o_guard, gk_ff, o_nil, POp.ev, Opd.ev, gv, setD, xsj, xel, pickV, unV]
           simp [hx]
         · simp only [o_pure, o_guard, gk_tf, o_nil, POp.ev, Opd.ev, gv, setD, xsj, xel, pickV, Bool.not_true]
           simp [hx]
 · simp only [Bool.not_eq_true'] at hg
   refine s_reg ?_
   simp only [o_pure, o_nil, POp.ev, Opd.ev, setD, List.set, xsj, xel]
   refine s_ret1 ?_
   simp +decide only [pqr, pfr, resV, resOne, resL, gv, xsj, xel, Option.bind_some, xms]
   refine ⟨⟨.slice none 0 0, ?_, ?_⟩, hx⟩
   · simp [mixR, hg]
   · simp [mixR, hg]
     exact .inl ⟨rfl, rfl⟩
 · simp only [Bool.not_eq_false'] at hg
   have hgi := hg
   simp only [mixA, inU, Bool.and_eq_true, decide_eq_true_eq, Bool.not_eq_true', beq_eq_false_iff_ne] at hgi
   obtain ⟨⟨⟨⟨hgd, hi1, hi2⟩, hk1, hk2⟩, hik⟩, hn1, hn100⟩ := hgi
   obtain ⟨i, rfl⟩ : ∃ n : Nat, i = n := ⟨i.toNat, by omega⟩
   obtain ⟨k, rfl⟩ : ∃ n : Nat, k = n := ⟨k.toNat, by omega⟩
   have hiL : i < ss.length := by omega
   have hkL : k < ss.length := by omega
   obtain ⟨_, hl3, hall⟩ := goodSS_all hgd
   have hp20 := hall _ (List.getElem_mem hiL)
   have hq20 := hall _ (List.getElem_mem hkL)
   have hnx := hx.next
   refine s_skip1 ?_
   simp +decide only [pqn]
   refine s_reg ?_
   simp only [o_pure, o_callF, POp.ev, Opd.ev, gv, setD, List.map, xsj, xel]
   refine (copySystem_ok lim _ _ _ (by omega) (hs.ext hx) hn hn2).mono ?_
   rintro v H2 ⟨hO, hx2⟩
   have hnx2 := hx2.next
   rcases hO with ⟨_, rfl⟩ | ⟨b, vs, bs, hX⟩
   · simp at hiL
   simp only [o_cont, o_pure, o_nil, POp.ev, Opd.ev, gv, setD, List.set, xsj, xel]
   obtain ⟨b1, o1, s1, u1, u2, u3⟩ := ((hs.ext hx).ext hx2).at hiL
   obtain ⟨b2, o2, s2, k1, k2, k3⟩ := ((hs.ext hx).ext hx2).at hkL
   refine s_reg ?_
   have hbl : fillV [.int .i64 0, .int .i64 0, .int .i64 0, .int .i64 0] [(0, 1, .int .i64 n)] = some (tc ⟨n, 0, 0, 0⟩) := by simp [fillV, cellsV, tc, putL]
   have hbs : bsliceH H2 1 [.int .i64 0, .int .i64 0, .int .i64 0, .int .i64 0] [(0, 4, .agg (tc ⟨n, 0, 0, 0⟩).toArray)] = some (.slice (some ⟨H2.next, 0, some 0⟩) 1 1, H2.alloc (tc ⟨n, 0, 0, 0⟩)) := bsliceT _ _
   simp only [o_pure, o_eff, o_callN, POp.ev, Opd.ev, EOp.ev, gv, setD, List.map, xms, xsj, xel, load1V, u1, u2, k1, k2, hbl, hbs]
   have hx3 := Ext.alloc H2 (tc ⟨n, 0, 0, 0⟩)
   have ho := sl_one H2 ⟨n, 0, 0, 0⟩
   have hn3 : (H2.alloc (tc ⟨n, 0, 0, 0⟩)).next = H2.next + 1 := rfl
   generalize H2.alloc (tc ⟨n, 0, 0, 0⟩) = H3 at hx3 ho hn3 ⊢
   refine (multiplyTerms_ok H3.next s2 _ ss[k] [⟨n, 0, 0, 0⟩] H3 (Nat.le_refl _) (k3.ext hx3) ho (by omega) (by simp) (fun t ht => ok_exS (hq20.2.1 t ht).1) (fun t ht => by rw [List.mem_singleton.1 ht]; unfold exS; simp)).mono ?_
   rintro v4 H4 ⟨c4, g1, g2, g3, g4⟩
   simp only [o_cont, o_eff, o_callF, Opd.ev, EOp.ev, gv, setD, List.map]
   have hx24 := hx3.trans g4
   have hsl4 : SlT H4 v4 (coll (prodL ss[k] [⟨n, 0, 0, 0⟩])) := Vec.sl g3
   have hs14 := u3.ext hx24
   have hn4 := g4.next
   simp only [xsj, xel, bslice2 H4 hs14.cellsV hsl4.cellsV]
   have hx5 := Ext.alloc H4 [s1, v4]
   have ho5 := slss_two hs14 hsl4
   have hn5 : (H4.alloc [s1, v4]).next = H4.next + 1 := rfl
   generalize H4.alloc [s1, v4] = H5 at hx5 ho5 hn5 ⊢
   have hlm : (coll (prodL ss[k] [⟨n, 0, 0, 0⟩])).length ≤ 20 := by
     have h1 := coll_length (prodL ss[k] [⟨n, 0, 0, 0⟩])
     rw [prodL_length, List.length_singleton] at h1
     omega
   refine (concatT_ok lim _ _ H5 (by omega) ho5 (by simp [tot]; omega) (by simp)).mono ?_
   rintro v6 H6 ⟨q1, q2⟩
   simp only [o_cont, o_callF, Opd.ev, gv, setD, List.map]
   have hn6 := q2.next
   have hfl : [ss[i], coll (prodL ss[k] [⟨n, 0, 0, 0⟩])].flatten = ss[i] ++ coll (prodL ss[k] [⟨n, 0, 0, 0⟩]) := by simp
   rw [hfl] at q1
   refine (collectG_ok lim _ _ H6 (by omega) q1 (by simp; omega)).mono ?_
   rintro v7 H7 ⟨c7, r1, r2, r3, r4⟩
   have hn7 := r4.next
   have hmx : coll (ss[i] ++ coll (prodL ss[k] [⟨n, 0, 0, 0⟩])) = mixF n ss[i] ss[k] := mix_same (good_can hp20.2.1 hp20.2.2)
   rw [hmx] at r3
   obtain ⟨c8, r3', hc8⟩ := VecT.avoid (a := H2.next) r3
   have hx27 : Ext H2 H7 := ((hx24.trans hx5).trans q2).trans r4
   have hX7 := hX.keep hx27.next fun c hc _ _ => hx27.blk c hc
   obtain ⟨H8, t1, t2, t3, t4, t5⟩ := hX7.setE (lim := lim) (i := i) (by omega) hiL (c := c8) (by omega) (by omega) r3'
   simp only [o_cont, o_pure, o_eff, o_nil, POp.ev, Opd.ev, EOp.ev, gv, setD, xsj, xel, t1, t2]
   have hset : ss.set i (mixF n ss[i] ss[k]) = mixL ss i k n := by
     unfold mixL
     rw [List.getD_eq_getElem?_getD, List.getD_eq_getElem?_getD, List.getElem?_eq_getElem hiL, List.getElem?_eq_getElem hkL]
     rfl
   rw [hset] at t3
   have hOwn : OwnSS H8 H1.next H8.next v (mixL ss i k n) := .inr ⟨b, _, _, t3⟩
   have hRl := mixL_length ss i k n
   have hmem : ∀ p ∈ mixL ss i k n, p.length ≤ 1000000 := by
     intro p hp
     obtain ⟨j, hj, rfl⟩ := List.getElem_of_mem hp
     rw [hRl] at hj
     have := mixL_get (n := n) hiL hkL hj
     rw [List.getElem?_eq_getElem (by omega)] at this
     rw [Option.some.inj this]
     split
     · have := mixF_length n ss[k] ss[i]
       omega
     · have := (hall _ (List.getElem_mem hj)).1
       omega
   have hmR : mixR ss i k n = if goodSS (mixL ss i k n) then some (mixL ss i k n) else none := by
     unfold mixR
     rw [hg]
     simp
   have hx18 : Ext H1 H8 := Chg.ext (hx2.trans hx27) t4 (by have := hX.rng; omega)
   rw [hmR]
   refine s_test ?_
   simp only [o_pure, o_callF, POp.ev, Opd.ev, gv, setD, List.map, xsj, xel]
   refine (isSystem_ok lim _ _ _ (by omega) hOwn.slss (by omega) hmem).mono ?_
   rintro _ H9 ⟨rfl, hx9⟩
   have hnx9 := hx9.next
   simp only [o_cont, o_pure, o_nil, POp.ev, Opd.ev, gv, setD, xsj, xel, unV]
   cases hgg : goodSS (mixL ss i k n)
   · refine Test.true_ (s_reg ?_)
     simp only [o_pure, o_nil, POp.ev, Opd.ev, setD, List.set, xsj, xel, if_false, Bool.false_eq_true]
     refine s_ret1 ?_
     simp +decide only [pqr, pfr, resV, resOne, resL, gv, xsj, xel, Option.bind_some, xms]
     exact ⟨⟨_, rfl, .inl ⟨rfl, rfl⟩⟩, (hx.trans hx18).trans hx9⟩
   · refine Test.false_ (s_skip1 ?_)
     simp +decide only [pqn, reduceIte]
     refine s_reg ?_
     simp only [o_pure, o_nil, POp.ev, Opd.ev, gv, setD, List.set, xsj, xel]
     refine s_ret1 ?_
     simp +decide only [pfr, resV, resOne, resL, gv, xsj, xel, Option.bind_some, xms]
     exact ⟨⟨v, rfl, (hOwn.ext hx9).wide hnx hnx9⟩, (hx.trans hx18).trans hx9⟩
theorem BoxT.putf {lim : Nat} {Hb H : AHeap} {q : Nat} {t : Tm} (h : BoxT Hb H q t) (hl : lim ≤ q) (c : Int) {j : Nat} (hj : j < 4) : ∃ cs, storeH lim H 1 (.pointer (some ⟨q, j, none⟩)) (.int .i64 c) = some (undef, H.put q cs) ∧ BoxT Hb (H.put q cs) q (t.upd j c) := by
 refine ⟨_, store_int .i64 c hl h.blk (by simpa [tc] using hj), Chg.ext h.ext (Chg.put _ _ _) h.ge, h.ge, h.lt, ?_⟩
 rw [put_same]
 match j, hj with
 | 0, _ => rfl
 | 1, _ => rfl
 | 2, _ => rfl
 | 3, _ => rfl
theorem BoxT.base {Hb Hb' H : AHeap} {q : Nat} {t : Tm} (h : BoxT Hb H q t) (hx : Ext Hb' Hb) : BoxT Hb' H q t :=
 ⟨hx.trans h.ext, Nat.le_trans hx.next h.ge, h.lt, h.blk⟩
def wi (t : Tm) (k n : Int) : Tm := if k = 0 then { t with x := n } else if k = 1 then { t with y := n } else { t with z := n }
theorem poWith_ok (lim : Nat) (t : Tm) (k n : Int) (H : AHeap) (hl : lim ≤ H.next) : ACalls Tryz.prog lim n_spec_poWith [tv t, .int .i64 k, .int .i64 n] H fun v H' => v = tv (wi t k n) ∧ Ext H H' := by
 refine is_spec_poWith.go rfl ?_
 unfold c_spec_poWith
 refine s_reg ?_
 simp only [o_eff, o_nil, Opd.ev, EOp.ev, env0, gu, gv, setD, List.set, xsj, xel, boxT]
 have hB := BoxT.mk' H t
 have hn1 : (H.alloc (tc t)).next = H.next + 1 := rfl
 generalize H.alloc (tc t) = H1 at hB hn1 ⊢
 have hx2 := Ext.alloc H1 [.int .i64 0, .int .i64 0, .int .i64 0, .int .i64 0]
 have hr : (H1.alloc [.int .i64 0, .int .i64 0, .int .i64 0, .int .i64 0]).blk H1.next = some [.int .i64 0, .int .i64 0, .int .i64 0, .int .i64 0] := alloc_new _ _
 have hn2 : (H1.alloc [.int .i64 0, .int .i64 0, .int .i64 0, .int .i64 0]).next = H1.next + 1 := rfl
 replace hB := hB.mono hx2
 generalize H1.alloc [.int .i64 0, .int .i64 0, .int .i64 0, .int .i64 0] = H2 at hB hr hn2 ⊢
 generalize hre : H1.next = r at hr hn2 ⊢
 generalize hpe : H.next = p at hB hl ⊢
 have hpr : p ≠ r := by omega
 refine s_reg ?_
 simp only [o_pure, o_nil, POp.ev, Opd.ev, gv, setD, List.set, xsj, xel]
 refine s_cut1 (fun e' H' => BoxT H H' p (wi t k n) ∧ H'.blk r = some [.int .i64 0, .int .i64 0, .int .i64 0, .int .i64 0] ∧ e' = [tv t, .int .i64 k, .int .i64 n, .pointer (some ⟨p, 0, none⟩), .pointer (some ⟨r, 0, none⟩), .int .i64 k]) ?_ ?_
 · refine s_block1 ?_
   refine s_test1 ?_
   simp only [o_pure, o_nil, POp.ev, Opd.ev, gv, setD, xsj, xel, binV, ne_eq, xnt, if_false]
   refine Test.split (fun h => ?_) (fun h => ?_)
   · obtain ⟨cs, g1, g2⟩ := hB.putf (lim := lim) (by omega) n (j := 1) (by omega)
     refine s_reg1 ?_
     simp only [o_pure, o_eff, o_nil, POp.ev, Opd.ev, EOp.ev, gv, setD, xsj, xel, fadV, Nat.zero_add, g1]
     simp +decide only [pqn, pbn]
     have e : wi t k n = t.upd 1 n := by unfold wi; rw [if_pos (by simpa using h)]; rfl
     rw [e]
     exact ⟨g2, by rw [put_ne _ _ (Ne.symm hpr)]; exact hr, trivial⟩
   · refine s_test1 ?_
     simp only [o_pure, o_nil, POp.ev, Opd.ev, gv, setD, xsj, xel, binV, ne_eq, xnt, if_false]
     refine Test.split (fun h2 => ?_) (fun h2 => ?_)
     · obtain ⟨cs, g1, g2⟩ := hB.putf (lim := lim) (by omega) n (j := 2) (by omega)
       refine s_reg1 ?_
       simp only [o_pure, o_eff, o_nil, POp.ev, Opd.ev, EOp.ev, gv, setD, xsj, xel, fadV, Nat.zero_add, g1]
       simp +decide only [pqn, pbn]
       have e : wi t k n = t.upd 2 n := by unfold wi; rw [if_neg (by simpa using h), if_pos (by simpa using h2)]; rfl
       rw [e]
       exact ⟨g2, by rw [put_ne _ _ (Ne.symm hpr)]; exact hr, trivial⟩
     · obtain ⟨cs, g1, g2⟩ := hB.putf (lim := lim) (by omega) n (j := 3) (by omega)
       refine s_reg1 ?_
       simp only [o_pure, o_eff, o_nil, POp.ev, Opd.ev, EOp.ev, gv, setD, xsj, xel, fadV, Nat.zero_add, g1]
       simp +decide only [pqn, pbn]
       have e : wi t k n = t.upd 3 n := by unfold wi; rw [if_neg (by simpa using h), if_neg (by simpa using h2)]; rfl
       rw [e]
       exact ⟨g2, by rw [put_ne _ _ (Ne.symm hpr)]; exact hr, trivial⟩
 rintro e' H3 ⟨hB3, hr3, rfl⟩
 refine s_reg ?_
 have hst : storeH lim H3 4 (.pointer (some ⟨r, 0, none⟩)) (tv (wi t k n)) = some (undef, H3.put r (tc (wi t k n))) := store4 (by omega) hr3
 simp only [o_pure, o_eff, o_nil, POp.ev, Opd.ev, EOp.ev, gv, setD, xsj, xel, hB3.all, hst]
 refine s_ret1 ?_
 have hld : loadNV (H3.put r (tc (wi t k n))) 4 (.pointer (some ⟨r, 0, none⟩)) = some (tv (wi t k n)) := load4 (put_same _ _ _)
 simp +decide only [pfr, resV, resOne, gv, xsj, xel, hld]
 exact ⟨trivial, Chg.ext hB3.ext (Chg.put _ _ _) (by omega)⟩
def putAll (acc : List Tm) (M : List Tm) : List Tm := M.foldl (fun a u => putF u a) acc
theorem putAll_cons (acc : List Tm) (u : Tm) (M : List Tm) : putAll acc (u :: M) = putAll (putF u acc) M := rfl
theorem putAll_append (acc M N : List Tm) : putAll acc (M ++ N) = putAll (putAll acc M) N := List.foldl_append ..
theorem putAll_can : ∀ {M acc : List Tm}, Can acc → (∀ u ∈ M, inR u.c) → Can (putAll acc M)
 | [], acc, h, _ => h
 | u :: M, acc, h, hm => by
   rw [putAll_cons]
   exact putAll_can (h.put (hm u (by simp))) (fun v hv => hm v (by simp [hv]))
theorem cs_putAll (k : Tm) : ∀ (M acc : List Tm), cg (cs k (putAll acc M)) (cs k acc + cs k M)
 | [], acc => cg.of_eq (by simp [putAll, cs])
 | u :: M, acc => by
   rw [putAll_cons]
   refine (cs_putAll k M _).trans ?_
   refine ((cs_putF k u acc).add (cg.refl (cs k M))).trans (cg.of_eq ?_)
   simp only [cs]
   omega
theorem mem_putAll {y : Tm} : ∀ {M acc : List Tm}, y ∈ putAll acc M → y ∈ acc ∨ ∃ u ∈ M, ordT y u = 0
 | [], acc, h => .inl h
 | u :: M, acc, h => by
   rw [putAll_cons] at h
   rcases mem_putAll h with h | ⟨v, hv, h⟩
   · rcases mem_putF h with h | h
     · exact .inl h
     · exact .inr ⟨u, by simp, h⟩
   · exact .inr ⟨v, by simp [hv], h⟩
theorem putAll_length : ∀ (M acc : List Tm), (putAll acc M).length ≤ acc.length + M.length
 | [], acc => by simp [putAll]
 | u :: M, acc => by
   have h1 := putAll_length M (putF u acc)
   have h2 := putF_length u acc
   rw [putAll_cons, List.length_cons]
   omega
theorem coll_putAll {M : List Tm} (h : ∀ u ∈ M, inR u.c) : coll M = putAll [] M :=
 Can.uniq (can_coll h) (putAll_can Can.nil h) fun k => (cs_coll k M).trans ((cs_putAll k M []).trans (cg.of_eq (by simp [cs]))).symm
def E (B : Int) (t : Tm) : Prop := (0 ≤ t.x ∧ t.x ≤ B) ∧ (0 ≤ t.y ∧ t.y ≤ B) ∧ (0 ≤ t.z ∧ t.z ≤ B)
theorem E.ord {B : Int} {a b : Tm} (h : E B b) (ho : ordT a b = 0) : E B a := by
 rw [ordT_zero] at ho
 unfold E at *
 omega
theorem E.exS {B : Int} {t : Tm} (h : E B t) (hB : B ≤ 1000) : exS t := by unfold E at h; unfold Go.Proofs.YtmdeppkfboaepaaGreat.exS; omega
theorem E.exB {B : Int} {t : Tm} (h : E B t) (hB : B ≤ 1000) : exB t := by unfold E at h; unfold Go.Proofs.YtmdeppkfboaepaaGreat.exB; omega
def upT (k : Int) (t : Tm) : Tm := wi t k (pw t k + 1)
theorem upT_c (k : Int) (t : Tm) : (upT k t).c = t.c := by
 unfold upT wi
 split
 · rfl
 · split <;> rfl
theorem upT_E {B k : Int} {t : Tm} (h : E B t) : E (B + 1) (upT k t) := by
 unfold E upT wi pw at *
 split
 · simp only; omega
 · split
   · simp only; omega
   · simp only; omega
theorem sc_E {B n : Int} {t : Tm} (h : E B t) : E (B + 1) (sc n t) := by
 unfold E sc at *
 simp only
 omega
def pairs (k n : Int) (L : List Tm) : List Tm := L.flatMap fun u => [upT k u, sc (-n) u]
theorem pairs_length (k n : Int) (L : List Tm) : (pairs k n L).length = 2 * L.length := by
 induction L with
 | nil => rfl
 | cons u L ih =>
   have : pairs k n (u :: L) = [upT k u, sc (-n) u] ++ pairs k n L := rfl
   rw [this, List.length_append, ih, List.length_cons]
   simp
   omega
theorem pairs_take {k n : Int} {L : List Tm} {i : Nat} (h : i < L.length) : pairs k n (L.take (i + 1)) = pairs k n (L.take i) ++ [upT k L[i], sc (-n) L[i]] := by
 unfold pairs
 rw [List.take_succ_eq_append_getElem h, List.flatMap_append]
 simp
theorem pairs_mem {k n : Int} {L : List Tm} {y : Tm} (h : y ∈ pairs k n L) : ∃ u ∈ L, y = upT k u ∨ y = sc (-n) u := by
 unfold pairs at h
 rw [List.mem_flatMap] at h
 obtain ⟨u, hu, h⟩ := h
 exact ⟨u, hu, by simpa using h⟩
theorem pairs_in {k n : Int} {L : List Tm} (h : ∀ t ∈ L, inR t.c) : ∀ y ∈ pairs k n L, inR y.c := by
 intro y hy
 obtain ⟨u, hu, rfl | rfl⟩ := pairs_mem hy
 · rw [upT_c]; exact h u hu
 · exact W_in _
theorem pairs_E {B k n : Int} {L : List Tm} (h : ∀ t ∈ L, E B t) : ∀ y ∈ pairs k n L, E (B + 1) y := by
 intro y hy
 obtain ⟨u, hu, rfl | rfl⟩ := pairs_mem hy
 · exact upT_E (h u hu)
 · exact sc_E (h u hu)
def xk (k : Int) : Tm := wi ⟨1, 0, 0, 0⟩ k 1
theorem prodL_pairs {k n : Int} : ∀ {L : List Tm}, (∀ t ∈ L, inR t.c) → prodL L [xk k, ⟨-n, 0, 0, 0⟩] = pairs k n L
 | [], _ => rfl
 | a :: L, h => by
   have e : prodL (a :: L) [xk k, ⟨-n, 0, 0, 0⟩] = [mulT a (xk k), mulT a ⟨-n, 0, 0, 0⟩] ++ prodL L [xk k, ⟨-n, 0, 0, 0⟩] := rfl
   have e2 : pairs k n (a :: L) = [upT k a, sc (-n) a] ++ pairs k n L := rfl
   rw [e, e2, prodL_pairs (fun t ht => h t (by simp [ht]))]
   have hw : W (a.c * 1) = a.c := by rw [Int.mul_one]; exact W_of_in (h a (by simp))
   have e3 : mulT a (xk k) = upT k a := by
     unfold mulT xk upT wi pw
     split
     · simp only [hw, Int.add_zero]
     · split <;> simp only [hw, Int.add_zero]
   have e4 : mulT a ⟨-n, 0, 0, 0⟩ = sc (-n) a := by simp [mulT, sc]
   rw [e3, e4]
def stepF (k n : Int) (L : List Tm) : List Tm := putAll [] (pairs k n L)
def powF (k n : Int) : Nat → List Tm → List Tm
 | 0, L => L
 | e + 1, L => powF k n e (stepF k n L)
theorem powF_succ (k n : Int) : ∀ (e : Nat) (L : List Tm), powF k n (e + 1) L = stepF k n (powF k n e L)
 | 0, L => rfl
 | e + 1, L => by
   show powF k n (e + 1) (stepF k n L) = _
   rw [powF_succ k n e]
   rfl
structure Fine (B : Int) (m : Nat) (L : List Tm) : Prop where
 can : Can L
 ex : ∀ t ∈ L, E B t
 len : L.length ≤ m
theorem Fine.inr {B : Int} {m : Nat} {L : List Tm} (h : Fine B m L) : ∀ t ∈ L, inR t.c := fun t ht => (h.can.nz t ht).2
theorem Fine.step {B k n : Int} {m : Nat} {L : List Tm} (h : Fine B m L) : Fine (B + 1) (2 * m) (stepF k n L) := by
 refine ⟨putAll_can Can.nil (pairs_in h.inr), fun t ht => ?_, ?_⟩
 · rcases mem_putAll ht with ht | ⟨u, hu, ho⟩
   · simp at ht
   · exact (pairs_E h.ex u hu).ord ho
 · have h1 := putAll_length (pairs k n L) []
   rw [pairs_length] at h1
   have := h.len
   unfold stepF
   simp at h1
   omega
theorem Fine.step_coll {B k n : Int} {m : Nat} {L : List Tm} (h : Fine B m L) : coll (prodL L [xk k, ⟨-n, 0, 0, 0⟩]) = stepF k n L := by
 rw [prodL_pairs h.inr]
 exact coll_putAll (pairs_in h.inr)
theorem Fine.pow {k n : Int} : ∀ (e : Nat) {B : Int} {m : Nat} {L : List Tm}, Fine B m L → Fine (B + e) (2 ^ e * m) (powF k n e L)
 | 0, B, m, L, h => by simpa [powF] using h
 | e + 1, B, m, L, h => by
   have := Fine.pow (k := k) (n := n) e (h.step (k := k) (n := n))
   have e1 : B + 1 + (e : Int) = B + ((e + 1 : Nat) : Int) := by omega
   have e2 : 2 ^ e * (2 * m) = 2 ^ (e + 1) * m := by rw [Nat.pow_succ, Nat.mul_assoc]
   rw [e1, e2] at this
   exact this
def t0 (k : Int) (t : Tm) : Tm := wi t k 0
theorem t0_fine {k : Int} {t : Tm} (h : okTm t = true) (hc : t.c ≠ 0) : Fine 4 1 [t0 k t] := by
 have hb := okTm_b h
 have h1 : (t0 k t).c = t.c := by
   unfold t0 wi
   split
   · rfl
   · split <;> rfl
 refine ⟨⟨List.pairwise_singleton _ _, fun x hx => ?_⟩, fun x hx => ?_, Nat.le_refl _⟩
 · rw [List.mem_singleton.1 hx, h1]
   exact ⟨hc, by unfold inR; omega⟩
 · rw [List.mem_singleton.1 hx]
   unfold E t0 wi
   split
   · simp only; omega
   · split <;> simp only <;> omega
def shT (k n : Int) (t : Tm) : List Tm := powF k n (pw t k).toNat [t0 k t]
theorem pw_small {t : Tm} (h : okTm t = true) (k : Int) : 0 ≤ pw t k ∧ pw t k ≤ 4 := by
 have hb := okTm_b h
 unfold pw
 split
 · omega
 · split <;> omega
theorem Fine.wide {B B' : Int} {m m' : Nat} {L : List Tm} (h : Fine B m L) (h1 : B ≤ B') (h2 : m ≤ m') : Fine B' m' L :=
 ⟨h.can, fun t ht => by have := h.ex t ht; unfold E at *; omega, Nat.le_trans h.len h2⟩
theorem pow_fine {k n : Int} {t : Tm} (h : okTm t = true) (hc : t.c ≠ 0) {e : Nat} (he : e ≤ 4) : Fine 8 16 (powF k n e [t0 k t]) := by
 refine (Fine.pow e (t0_fine h hc)).wide (by omega) ?_
 rw [Nat.mul_one]
 exact Nat.pow_le_pow_right (by omega) he
theorem shT_fine {k n : Int} {t : Tm} (h : okTm t = true) (hc : t.c ≠ 0) : Fine 8 16 (shT k n t) := pow_fine h hc (by have := pw_small h k; omega)
def shM (k n : Int) (p : List Tm) : List Tm := p.flatMap (shT k n)
def shP (k n : Int) (p : List Tm) : List Tm := putAll [] (shM k n p)
theorem shM_mem {k n : Int} {p : List Tm} {u : Tm} (h : u ∈ shM k n p) : ∃ t ∈ p, u ∈ shT k n t := List.mem_flatMap.1 h
theorem shM_take {k n : Int} {p : List Tm} {i : Nat} (h : i < p.length) : shM k n (p.take (i + 1)) = shM k n (p.take i) ++ shT k n p[i] := by
 unfold shM
 rw [List.take_succ_eq_append_getElem h, List.flatMap_append]
 simp
theorem shM_length {k n : Int} : ∀ {p : List Tm}, (∀ t ∈ p, okTm t = true ∧ t.c ≠ 0) → (shM k n p).length ≤ 16 * p.length
 | [], _ => by simp [shM]
 | t :: p, h => by
   have h1 := (shT_fine (k := k) (n := n) (h t (by simp)).1 (h t (by simp)).2).len
   have h2 := shM_length (k := k) (n := n) (p := p) (fun x hx => h x (by simp [hx]))
   have e : shM k n (t :: p) = shT k n t ++ shM k n p := rfl
   rw [e, List.length_append, List.length_cons]
   omega
theorem shM_in {k n : Int} {p : List Tm} (h : ∀ t ∈ p, okTm t = true ∧ t.c ≠ 0) : ∀ u ∈ shM k n p, inR u.c ∧ u.c ≠ 0 ∧ E 8 u := by
 intro u hu
 obtain ⟨t, ht, hu⟩ := shM_mem hu
 have hf := shT_fine (k := k) (n := n) (h t ht).1 (h t ht).2
 exact ⟨(hf.can.nz u hu).2, (hf.can.nz u hu).1, hf.ex u hu⟩
theorem shP_coll {k n : Int} {p : List Tm} (h : ∀ t ∈ p, okTm t = true ∧ t.c ≠ 0) : coll (shM k n p) = shP k n p := coll_putAll fun u hu => (shM_in h u hu).1
theorem shP_ex {k n : Int} {p : List Tm} (h : ∀ t ∈ p, okTm t = true ∧ t.c ≠ 0) : ∀ y ∈ shP k n p, E 8 y := by
 intro y hy
 rcases mem_putAll hy with hy | ⟨u, hu, ho⟩
 · simp at hy
 · exact (shM_in h u hu).2.2.ord ho
theorem shP_length {k n : Int} {p : List Tm} (h : ∀ t ∈ p, okTm t = true ∧ t.c ≠ 0) : (shP k n p).length ≤ 16 * p.length := by
 have h1 := putAll_length (shM k n p) []
 have h2 := shM_length (k := k) (n := n) h
 unfold shP
 simp at h1
 omega
theorem expF_ord {m : Int} {a b : Tm} (h : ordT a b = 0) : expF m a 0 = expF m b 0 := by
 obtain ⟨h1, h2, h3⟩ := (ordT_zero a b).1 h
 unfold expF
 rw [h1, h2, h3]
theorem expF_wi {m k j : Int} {t : Tm} (hk : 0 ≤ k) (hk2 : k < m) (h : expF m t 0 = true) : expF m (wi t k j) 0 = true := by
 unfold expF at *
 simp only [Bool.and_eq_true, Bool.or_eq_true, Bool.not_eq_true', decide_eq_true_eq, Bool.and_eq_false_iff, decide_eq_false_iff_not] at *
 unfold wi
 split
 · simp only; omega
 · split
   · simp only; omega
   · simp only; omega
theorem expF_up {m k : Int} {t : Tm} (hk : 0 ≤ k) (hk2 : k < m) (h : expF m t 0 = true) : expF m (upT k t) 0 = true := expF_wi hk hk2 h
theorem pow_exp {m k n : Int} (hk : 0 ≤ k) (hk2 : k < m) : ∀ (e : Nat) {L : List Tm}, (∀ t ∈ L, expF m t 0 = true) → ∀ t ∈ powF k n e L, expF m t 0 = true
 | 0, L, h => h
 | e + 1, L, h => pow_exp hk hk2 e (fun t ht => by
   rcases mem_putAll ht with ht | ⟨u, hu, ho⟩
   · simp at ht
   · rw [expF_ord ho]
     obtain ⟨v, hv, rfl | rfl⟩ := pairs_mem hu
     · exact expF_up hk hk2 (h v hv)
     · exact h v hv)
theorem needF_iff (m : Int) : ∀ l : List Tm, needF m l = true ↔ ∀ t ∈ l, expF m t 0 = true
 | [] => by simp [needF]
 | t :: l => by
   rw [needF, Bool.and_eq_true, needF_iff m l]
   simp
theorem shP_need {m k n : Int} {p : List Tm} (hk : 0 ≤ k) (hk2 : k < m) (h : needF m p = true) : needF m (shP k n p) = true := by
 rw [needF_iff] at *
 intro y hy
 rcases mem_putAll hy with hy | ⟨u, hu, ho⟩
 · simp at hy
 · rw [expF_ord ho]
   obtain ⟨t, ht, hu⟩ := shM_mem hu
   exact pow_exp hk hk2 _ (fun x hx => by rw [List.mem_singleton.1 hx]; exact expF_wi hk hk2 (h t ht)) u hu
theorem sysF_sh {k n : Int} {m : Nat} (hk : 0 ≤ k) (hk2 : k < m) : ∀ {l : List (List Tm)}, sysF m l = true → sysF m (l.map (shP k n)) = l.all fun p => goodP (shP k n p)
 | [], _ => rfl
 | p :: l, h => by
   simp only [sysF, Bool.and_eq_true] at h
   have h1 := shP_need (n := n) hk hk2 (by rw [need_from]; exact h.1.2)
   rw [need_from] at h1
   rw [List.map_cons, sysF, h1, sysF_sh hk hk2 h.2, List.all_cons, Bool.and_true]
def shA (ss : List (List Tm)) (k n : Int) : Bool := goodSS ss && inU ss.length k && (decide (-8 ≤ n) && decide (n ≤ 8))
def shR (ss : List (List Tm)) (k n : Int) : Option (List (List Tm)) := if shA ss k n && goodSS (ss.map (shP k n)) then some (ss.map (shP k n)) else none
theorem shR_small {ss : List (List Tm)} {k n : Int} {l : List (List Tm)} (h : shR ss k n = some l) : l.length ≤ 3 ∧ ∀ p ∈ l, p.length ≤ 20 := by
 unfold shR at h
 split at h
 · rename_i hg
   simp only [Bool.and_eq_true] at hg
   cases h
   obtain ⟨_, g1, g2⟩ := goodSS_all hg.2
   exact ⟨g1, fun p hp => (g2 p hp).1⟩
 · cases h
theorem goodSS_sh {ss : List (List Tm)} {k n : Int} (h : shA ss k n = true) : goodSS (ss.map (shP k n)) = ss.all fun p => goodP (shP k n p) := by
 simp only [shA, inU, Bool.and_eq_true, decide_eq_true_eq, goodSS] at h
 have := sysF_sh (k := k) (n := n) (m := ss.length) (by omega) (by omega) h.1.1.1
 unfold goodSS
 rw [List.length_map, this]
 have h1 : decide (1 ≤ (ss.length : Int)) = true := decide_eq_true (by omega)
 have h2 : decide ((ss.length : Int) ≤ 3) = true := decide_eq_true (by omega)
 rw [h1, h2, Bool.and_true, Bool.and_true]
def ev (φ : Tm → Int) : List Tm → Int
 | [] => 0
 | t :: l => t.c * φ t + ev φ l
def Exf (φ : Tm → Int) : Prop := ∀ a b, ordT a b = 0 → φ a = φ b
theorem ev_append (φ : Tm → Int) : ∀ l m : List Tm, ev φ (l ++ m) = ev φ l + ev φ m
 | [], m => by simp [ev]
 | t :: l, m => by rw [List.cons_append, ev, ev, ev_append φ l]; omega
theorem ev_putF {φ : Tm → Int} (h : Exf φ) (t : Tm) : ∀ l : List Tm, cg (ev φ (putF t l)) (ev φ l + t.c * φ t)
 | [] => by
   unfold putF
   split
   · rename_i h0
     refine cg.of_eq ?_
     rw [h0]; simp [ev]
   · exact cg.of_eq (by simp only [ev]; omega)
 | x :: l => by
   unfold putF
   split
   · simp only [ev]
     refine ((cg.refl (x.c * φ x)).add (ev_putF h t l)).trans (cg.of_eq (by omega))
   · split
     · rename_i ho
       have e := h x t ho
       have hw : cg (W (t.c + x.c) * φ t) (t.c * φ t + x.c * φ x) := by
         refine ((cg_W (t.c + x.c)).mul (cg.refl (φ t))).trans (cg.of_eq ?_)
         rw [e, Int.add_mul]
       split
       · rename_i h0
         rw [h0] at hw
         simp only [ev]
         have := (hw.add (cg.refl (ev φ l)))
         refine cg.trans (cg.of_eq ?_) (this.trans (cg.of_eq ?_))
         · simp
         · omega
       · simp only [ev]
         have e2 : φ { t with c := W (t.c + x.c) } = φ t := h _ _ (by rw [ordT_zero]; exact ⟨rfl, rfl, rfl⟩)
         rw [e2]
         refine (hw.add (cg.refl (ev φ l))).trans (cg.of_eq (by omega))
     · split
       · rename_i h0
         refine cg.of_eq ?_
         rw [h0]; simp [ev]
       · refine cg.of_eq ?_
         simp only [ev]; omega
theorem ev_putAll {φ : Tm → Int} (h : Exf φ) : ∀ (M acc : List Tm), cg (ev φ (putAll acc M)) (ev φ acc + ev φ M)
 | [], acc => cg.of_eq (by simp [putAll, ev])
 | u :: M, acc => by
   rw [putAll_cons]
   refine (ev_putAll h M _).trans ?_
   refine ((ev_putF h u acc).add (cg.refl (ev φ M))).trans (cg.of_eq ?_)
   simp only [ev]
   omega
def ind (k : Tm) (t : Tm) : Int := if ordT t k = 0 then 1 else 0
theorem Exf.ind (k : Tm) : Exf (ind k) := by
 intro a b h
 unfold Go.Proofs.YtmdeppkfboaepaaGreat.ind
 simp only [ord_same (k := k) h]
theorem ev_ind (k : Tm) : ∀ l : List Tm, ev (ind k) l = cs k l
 | [] => rfl
 | t :: l => by
   rw [ev, cs, ev_ind k l]
   unfold ind
   split <;> simp
def D (k n : Int) (φ : Tm → Int) (u : Tm) : Int := φ (upT k u) - n * φ u
theorem ord_wi {k i : Int} {a b : Tm} (h : ordT a b = 0) : ordT (wi a k i) (wi b k i) = 0 := by
 obtain ⟨h1, h2, h3⟩ := (ordT_zero a b).1 h
 refine (ordT_zero _ _).2 ?_
 unfold wi
 by_cases h0 : k = 0
 · simp only [if_pos h0]; exact ⟨trivial, h2, h3⟩
 · by_cases h1' : k = 1
   · simp only [if_neg h0, if_pos h1']; exact ⟨h1, trivial, h3⟩
   · simp only [if_neg h0, if_neg h1']; exact ⟨h1, h2, trivial⟩
theorem pw_ord {k : Int} {a b : Tm} (h : ordT a b = 0) : pw a k = pw b k := by
 rw [ordT_zero] at h
 unfold pw
 split
 · omega
 · split <;> omega
theorem Exf.D {k n : Int} {φ : Tm → Int} (h : Exf φ) : Exf (D k n φ) := by
 intro a b ho
 unfold Go.Proofs.YtmdeppkfboaepaaGreat.D upT
 rw [h a b ho, pw_ord ho, h _ _ (ord_wi ho)]
theorem ev_pairs {k n : Int} {φ : Tm → Int} (h : Exf φ) : ∀ L : List Tm, cg (ev φ (pairs k n L)) (ev (D k n φ) L)
 | [] => cg.refl _
 | u :: L => by
   have e : pairs k n (u :: L) = upT k u :: sc (-n) u :: pairs k n L := rfl
   rw [e, ev, ev, ev]
   have e1 : φ (sc (-n) u) = φ u := h _ _ (by rw [ordT_zero]; exact ⟨rfl, rfl, rfl⟩)
   have e2 : (sc (-n) u).c = W (u.c * -n) := rfl
   rw [upT_c, e1, e2]
   have h1 : cg (W (u.c * -n) * φ u) (u.c * -n * φ u) := (cg_W _).mul (cg.refl _)
   refine (((cg.refl _).add (h1.add (ev_pairs h L)))).trans (cg.of_eq ?_)
   unfold D
   rw [Int.mul_sub, Int.mul_neg, Int.neg_mul, Int.mul_assoc]
   omega
theorem ev_stepF {k n : Int} {φ : Tm → Int} (h : Exf φ) (L : List Tm) : cg (ev φ (stepF k n L)) (ev (D k n φ) L) := by
 refine (ev_putAll h _ []).trans ?_
 refine cg.trans (cg.of_eq ?_) (ev_pairs h L)
 simp [ev]
def Dp (k n : Int) : Nat → (Tm → Int) → Tm → Int
 | 0, φ => φ
 | e + 1, φ => D k n (Dp k n e φ)
theorem Exf.Dp {k n : Int} {φ : Tm → Int} (h : Exf φ) : ∀ e, Exf (Dp k n e φ)
 | 0 => h
 | e + 1 => (Exf.Dp h e).D
theorem ev_powF {k n : Int} {φ : Tm → Int} (h : Exf φ) : ∀ (e : Nat) (L : List Tm), cg (ev φ (powF k n e L)) (ev (Dp k n e φ) L)
 | 0, L => cg.refl _
 | e + 1, L => (ev_powF h e (stepF k n L)).trans (ev_stepF (h.Dp e) L)
def A (k n : Int) (φ : Tm → Int) (t : Tm) : Int := Dp k n (pw t k).toNat φ (t0 k t)
theorem Exf.A {k n : Int} {φ : Tm → Int} (h : Exf φ) : Exf (A k n φ) := by
 intro a b ho
 unfold Go.Proofs.YtmdeppkfboaepaaGreat.A t0
 rw [pw_ord ho]
 exact h.Dp _ _ _ (ord_wi ho)
theorem t0_c (k : Int) (t : Tm) : (t0 k t).c = t.c := by
 unfold t0 wi
 split
 · rfl
 · split <;> rfl
theorem ev_shT {k n : Int} {φ : Tm → Int} (h : Exf φ) (t : Tm) : cg (ev φ (shT k n t)) (t.c * A k n φ t) := by
 refine (ev_powF h _ _).trans (cg.of_eq ?_)
 simp only [ev, t0_c, A]
 omega
theorem ev_shM {k n : Int} {φ : Tm → Int} (h : Exf φ) : ∀ p : List Tm, cg (ev φ (shM k n p)) (ev (A k n φ) p)
 | [] => cg.refl _
 | t :: p => by
   have e : shM k n (t :: p) = shT k n t ++ shM k n p := rfl
   rw [e, ev_append, ev]
   exact (ev_shT h t).add (ev_shM h p)
theorem ev_shP {k n : Int} {φ : Tm → Int} (h : Exf φ) (p : List Tm) : cg (ev φ (shP k n p)) (ev (A k n φ) p) := by
 refine (ev_putAll h _ []).trans ?_
 refine cg.trans (cg.of_eq ?_) (ev_shM h p)
 simp [ev]
def dp (n : Int) : Nat → (Nat → Int) → Nat → Int
 | 0, g => g
 | e + 1, g => fun j => dp n e g (j + 1) - n * dp n e g j
theorem dp_shift (n : Int) : ∀ (e : Nat) (g : Nat → Int) (i : Nat), dp n e (fun j => g (j + 1)) i = dp n e g (i + 1)
 | 0, g, i => rfl
 | e + 1, g, i => by
   show dp n e (fun j => g (j + 1)) (i + 1) - n * dp n e (fun j => g (j + 1)) i = dp n e g (i + 1 + 1) - n * dp n e g (i + 1)
   rw [dp_shift n e g, dp_shift n e g]
theorem dp_back (n : Int) : ∀ (e : Nat) (g : Nat → Int) (j : Nat), dp n e (fun i => dp (-n) i g 0) j = dp (-n) j (fun i => g (i + e)) 0
 | 0, g, j => rfl
 | e + 1, g, j => by
   have e1 : dp n (e + 1) (fun i => dp (-n) i g 0) j = dp n e (fun i => dp (-n) i g 0) (j + 1) - n * dp n e (fun i => dp (-n) i g 0) j := rfl
   rw [e1, dp_back n e g, dp_back n e g]
   have e2 : dp (-n) (j + 1) (fun i => g (i + e)) 0 = dp (-n) j (fun i => g (i + e)) (0 + 1) - (-n) * dp (-n) j (fun i => g (i + e)) 0 := rfl
   have e3 := dp_shift (-n) j (fun i => g (i + e)) 0
   have e4 : (fun j => (fun i => g (i + e)) (j + 1)) = fun i => g (i + (e + 1)) := by
     funext i
     show g (i + 1 + e) = g (i + (e + 1))
     congr 1
     omega
   rw [e4] at e3
   rw [e2, ← e3, Int.neg_mul]
   omega
theorem wi_wi (t : Tm) (k i j : Int) : wi (wi t k i) k j = wi t k j := by
 unfold wi
 split
 · rfl
 · split <;> rfl
theorem pw_wi (t : Tm) (k i : Int) : pw (wi t k i) k = i := by
 unfold pw wi
 split
 · rfl
 · split <;> rfl
theorem wi_pw (t : Tm) (k : Int) : wi t k (pw t k) = t := by
 unfold pw wi
 split
 · rfl
 · split <;> rfl
theorem Dp_wi (k n : Int) (φ : Tm → Int) (t : Tm) : ∀ (e j : Nat), Dp k n e φ (wi t k j) = dp n e (fun i => φ (wi t k i)) j
 | 0, j => rfl
 | e + 1, j => by
   show D k n (Dp k n e φ) (wi t k j) = dp n e (fun i => φ (wi t k i)) (j + 1) - n * dp n e (fun i => φ (wi t k i)) j
   unfold D upT
   rw [pw_wi, wi_wi, ← Dp_wi k n φ t e (j + 1), ← Dp_wi k n φ t e j]
   rfl
theorem A_wi (k n : Int) (φ : Tm → Int) (t : Tm) (j : Nat) : A k n φ (wi t k j) = dp n j (fun i => φ (wi t k i)) 0 := by
 unfold A t0
 rw [pw_wi, wi_wi]
 exact Dp_wi k n φ t j 0
theorem A_back {k n : Int} {φ : Tm → Int} {t : Tm} (h : 0 ≤ pw t k) : A k n (A k (-n) φ) t = φ t := by
 obtain ⟨m, hm⟩ : ∃ m : Nat, pw t k = m := ⟨(pw t k).toNat, by omega⟩
 have e := wi_pw t k
 rw [hm] at e
 rw [← e, A_wi]
 have e3 : (fun i : Nat => A k (-n) φ (wi t k i)) = fun i => dp (-n) i (fun i => φ (wi t k i)) 0 := by
   funext i
   rw [A_wi]
 rw [e3, dp_back]
 show φ (wi t k ((0 + m : Nat) : Int)) = _
 rw [Nat.zero_add]
theorem ev_congr {φ ψ : Tm → Int} : ∀ {l : List Tm}, (∀ t ∈ l, φ t = ψ t) → ev φ l = ev ψ l
 | [], _ => rfl
 | t :: l, h => by rw [ev, ev, h t (by simp), ev_congr fun u hu => h u (by simp [hu])]
theorem shP_back {k n : Int} {p : List Tm} (hp : Can p) (hq : ∀ t ∈ p, 0 ≤ pw t k) (hr : ∀ t ∈ shM k (-n) (shP k n p), inR t.c) : shP k (-n) (shP k n p) = p := by
 refine Can.uniq (putAll_can Can.nil hr) hp fun key => ?_
 have h := Exf.ind key
 have h1 := (ev_shP (k := k) (n := -n) h (shP k n p)).trans (ev_shP (k := k) (n := n) h.A p)
 rw [ev_congr (ψ := ind key) (fun t ht => A_back (hq t ht)), ev_ind, ev_ind] at h1
 exact h1
def mono (x y z : Int) (t : Tm) : Int := x ^ t.x.toNat * y ^ t.y.toNat * z ^ t.z.toNat
theorem Exf.mono (x y z : Int) : Exf (mono x y z) := by
 intro a b h
 obtain ⟨h1, h2, h3⟩ := (ordT_zero a b).1 h
 unfold Go.Proofs.YtmdeppkfboaepaaGreat.mono
 rw [h1, h2, h3]
theorem dp_pow (n w a b : Int) : ∀ (e j : Nat), dp n e (fun i => a * (w + n) ^ i * b) j = a * w ^ e * (w + n) ^ j * b
 | 0, j => by simp [dp]
 | e + 1, j => by
   show dp n e _ (j + 1) - n * dp n e _ j = _
   rw [dp_pow n w a b e, dp_pow n w a b e, Int.pow_succ, Int.pow_succ]
   have : n * (a * w ^ e * (w + n) ^ j * b) = a * w ^ e * ((w + n) ^ j * n) * b := by
     rw [Int.mul_comm n, Int.mul_assoc, Int.mul_assoc, Int.mul_comm b n, ← Int.mul_assoc, ← Int.mul_assoc, Int.mul_assoc (a * w ^ e)]
   rw [this, Int.mul_add, Int.mul_add, Int.add_mul]
   have : a * (w ^ e * w) * (w + n) ^ j * b = a * w ^ e * ((w + n) ^ j * w) * b := by
     rw [← Int.mul_assoc a, Int.mul_assoc (a * w ^ e) w, Int.mul_comm w]
   rw [this]
   omega
theorem A_mono {k n x y z : Int} {t : Tm} (h : 0 ≤ pw t k) (hk : 0 ≤ k ∧ k < 3) : A k n (mono (if k = 0 then x + n else x) (if k = 1 then y + n else y) (if k = 2 then z + n else z)) t = mono x y z t := by
 obtain ⟨m, hm⟩ : ∃ m : Nat, pw t k = m := ⟨(pw t k).toNat, by omega⟩
 have e := wi_pw t k
 rw [hm] at e
 rw [← e, A_wi]
 have hm2 : (m : Int).toNat = m := by omega
 rcases (by omega : k = 0 ∨ k = 1 ∨ k = 2) with rfl | rfl | rfl
 · have e1 : (fun i : Nat => mono (x + n) y z (wi t 0 i)) = fun i => 1 * (x + n) ^ i * (y ^ t.y.toNat * z ^ t.z.toNat) := by
     funext i
     simp [mono, wi, Int.mul_assoc]
   simp only [reduceIte, Int.reduceEq] at *
   rw [e1, dp_pow]
   simp [mono, wi, Int.mul_assoc]
 · have e1 : (fun i : Nat => mono x (y + n) z (wi t 1 i)) = fun i => x ^ t.x.toNat * (y + n) ^ i * (z ^ t.z.toNat) := by
     funext i
     simp [mono, wi]
   simp only [reduceIte, Int.reduceEq] at *
   rw [e1, dp_pow]
   simp [mono, wi, Int.mul_assoc]
 · have e1 : (fun i : Nat => mono x y (z + n) (wi t 2 i)) = fun i => (x ^ t.x.toNat * y ^ t.y.toNat) * (z + n) ^ i * 1 := by
     funext i
     simp [mono, wi]
   simp only [reduceIte, Int.reduceEq] at *
   rw [e1, dp_pow]
   simp [mono, wi, Int.mul_assoc]
theorem ev_shift {k n x y z : Int} {p : List Tm} (hk : 0 ≤ k ∧ k < 3) (hq : ∀ t ∈ p, 0 ≤ pw t k) :
   cg (ev (mono (if k = 0 then x + n else x) (if k = 1 then y + n else y) (if k = 2 then z + n else z)) (shP k n p)) (ev (mono x y z) p) := by
 refine (ev_shP (Exf.mono _ _ _) p).trans (cg.of_eq (ev_congr fun t ht => A_mono (hq t ht) hk))
theorem okTm_iff (t : Tm) : okTm t = true ↔ -1000 ≤ t.c ∧ t.c ≤ 1000 ∧ 0 ≤ t.x ∧ t.x ≤ 4 ∧ 0 ≤ t.y ∧ t.y ≤ 4 ∧ 0 ≤ t.z ∧ t.z ≤ 4 ∧ t.x + t.y + t.z ≤ 4 := by
 simp only [okTm, Bool.and_eq_true, decide_eq_true_eq]
 omega
theorem goodF_mk : ∀ {l : List Tm} {u : Option Tm}, (∀ t ∈ l, okTm t = true ∧ t.c ≠ 0) → Sor l → (∀ v, u = some v → ∀ t ∈ l, ordT v t < 0) → goodF u l = true
 | [], u, _, _, _ => rfl
 | t :: l, u, h1, h2, h3 => by
   obtain ⟨g1, g2⟩ := List.pairwise_cons.1 h2
   have ht := h1 t (by simp)
   have ih := goodF_mk (l := l) (u := some t) (fun x hx => h1 x (by simp [hx])) g2 (by intro v hv x hx; cases hv; exact g1 x hx)
   unfold goodF
   rw [ih, ht.1]
   have hc : decide (t.c = 0) = false := decide_eq_false ht.2
   rw [hc]
   cases u with
   | none => rfl
   | some v =>
     have := h3 v rfl t (by simp)
     have hv : decide (ordT v t ≥ 0) = false := decide_eq_false (by omega)
     simp [hv]
theorem sysF_iff (n : Nat) : ∀ l : List (List Tm), sysF n l = true ↔ ∀ p ∈ l, goodP p = true ∧ fromB n p = true
 | [] => by simp [sysF]
 | p :: l => by
   rw [sysF, Bool.and_eq_true, Bool.and_eq_true, sysF_iff n l]
   simp
theorem goodSS_iff (ss : List (List Tm)) : goodSS ss = true ↔ (∀ p ∈ ss, goodP p = true ∧ fromB ss.length p = true) ∧ 1 ≤ ss.length ∧ ss.length ≤ 3 := by
 unfold goodSS
 rw [Bool.and_eq_true, Bool.and_eq_true, sysF_iff, decide_eq_true_eq, decide_eq_true_eq]
 have e : ((1 : Int) ≤ ss.length ∧ (ss.length : Int) ≤ 3) ↔ (1 ≤ ss.length ∧ ss.length ≤ 3) := by omega
 rw [e]
theorem inU_iff (n : Nat) (u : Int) : inU n u = true ↔ 0 ≤ u ∧ u < n := by
 simp only [inU, Bool.and_eq_true, decide_eq_true_eq]
 omega
theorem neg_pow_two (e : Nat) : ((-1 : Int) ^ e) * (-1) ^ e = 1 := by
 induction e with
 | zero => rfl
 | succ e ih =>
   rw [Int.pow_succ]
   have : (-1 : Int) ^ e * -1 * ((-1) ^ e * -1) = (-1) ^ e * (-1) ^ e := by
     rw [Int.mul_neg, Int.mul_neg, Int.mul_one, Int.neg_mul, Int.neg_neg]
   rw [this, ih]
theorem tr_twice (u : Int) (t : Tm) : tr (-1) u (tr (-1) u t) = t := by
 unfold tr
 show ({ t with c := t.c * (-1) ^ (pw t u).toNat * (-1) ^ (pw t u).toNat } : Tm) = t
 rw [Int.mul_assoc, neg_pow_two, Int.mul_one]
theorem tr_neg_c (u : Int) (t : Tm) : (tr (-1) u t).c = t.c ∨ (tr (-1) u t).c = -t.c := by
 have : ∀ e : Nat, (-1 : Int) ^ e = 1 ∨ (-1 : Int) ^ e = -1 := by
   intro e
   induction e with
   | zero => exact .inl rfl
   | succ e ih => rw [Int.pow_succ]; omega
 show t.c * (-1) ^ (pw t u).toNat = t.c ∨ t.c * (-1) ^ (pw t u).toNat = -t.c
 rcases this (pw t u).toNat with e | e <;> rw [e] <;> omega
theorem mirror_good {ss : List (List Tm)} {u : Int} (h : goodSS ss = true) : ss.all (fun p => goodP (p.map (tr (-1) u))) = true := by
 obtain ⟨_, _, hall⟩ := goodSS_all h
 rw [List.all_eq_true]
 intro p hp
 obtain ⟨h1, h2, h3⟩ := hall p hp
 unfold goodP
 rw [goodF_mk _ (Sorted.sor (sorted_tr _ _ h3)) (by intro v hv; cases hv), List.length_map]
 · simp; omega
 · intro t ht
   obtain ⟨v, hv, rfl⟩ := List.mem_map.1 ht
   obtain ⟨k1, k2⟩ := h2 v hv
   rw [okTm_iff] at k1 ⊢
   have := tr_neg_c u v
   have e1 : (tr (-1) u v).x = v.x := rfl
   have e2 : (tr (-1) u v).y = v.y := rfl
   have e3 : (tr (-1) u v).z = v.z := rfl
   omega
theorem trR_neg {ss : List (List Tm)} {u : Int} (h : goodSS ss = true) (hu : inU ss.length u = true) : trR (-1) ss u = some (ss.map (·.map (tr (-1) u))) := by
 unfold trR timesR
 rw [h, hu, if_pos (by rfl), if_pos (mirror_good h)]
theorem trR_asked {n u : Int} {ss l : List (List Tm)} (h : trR n ss u = some l) : goodSS ss = true ∧ inU ss.length u = true := by
 unfold trR at h
 split at h
 · rename_i hg
   simpa using hg
 · cases h
theorem map_tr_good {ss : List (List Tm)} {u : Int} (h : goodSS ss = true) : goodSS (ss.map (·.map (tr (-1) u))) = true := by
 obtain ⟨g1, g2, g3⟩ := (goodSS_iff ss).1 h
 unfold goodSS
 rw [List.length_map, sysF_tr _ _ _ _ (by unfold goodSS at h; simp only [Bool.and_eq_true] at h; exact h.1), mirror_good h]
 simp
 omega
theorem trR_back {u : Int} {ss l : List (List Tm)} (h : trR (-1) ss u = some l) : trR (-1) l u = some ss := by
 obtain ⟨h1, h2⟩ := trR_asked h
 rw [trR_neg h1 h2] at h
 cases h
 rw [trR_neg (map_tr_good h1) (by rw [List.length_map]; exact h2), List.map_map]
 congr 1
 rw [List.map_congr_left (g := id), List.map_id]
 intro p _
 show (p.map (tr (-1) u)).map (tr (-1) u) = p
 rw [List.map_map, List.map_congr_left (g := id), List.map_id]
 intro t _
 exact tr_twice u t
theorem shR_asked {ss l : List (List Tm)} {k n : Int} (h : shR ss k n = some l) : goodSS ss = true ∧ (0 ≤ k ∧ k < ss.length) ∧ (-8 ≤ n ∧ n ≤ 8) ∧ l = ss.map (shP k n) ∧ goodSS l = true := by
 unfold shR at h
 split at h
 · rename_i hg
   cases h
   simp only [shA, Bool.and_eq_true, decide_eq_true_eq, inU_iff] at hg
   exact ⟨hg.1.1.1, hg.1.1.2, hg.1.2, rfl, hg.2⟩
 · cases h
theorem pw_ok {t : Tm} (h : okTm t = true) (k : Int) : 0 ≤ pw t k := (pw_small h k).1
theorem shR_back {ss l : List (List Tm)} {k n : Int} (h : shR ss k n = some l) : shR l k (-n) = some ss := by
 obtain ⟨h1, h2, h3, rfl, h5⟩ := shR_asked h
 obtain ⟨_, _, hall⟩ := goodSS_all h1
 obtain ⟨_, _, hall2⟩ := goodSS_all h5
 have e : (ss.map (shP k n)).map (shP k (-n)) = ss := by
   rw [List.map_map, List.map_congr_left (g := id), List.map_id]
   intro p hp
   obtain ⟨k1, k2, k3⟩ := hall p hp
   obtain ⟨j1, j2, j3⟩ := hall2 _ (List.mem_map_of_mem hp)
   exact shP_back (good_can k2 k3) (fun t ht => pw_ok (k2 t ht).1 k) (fun t ht => (shM_in j2 t ht).1)
 unfold shR
 rw [e, h1, Bool.and_true, if_pos]
 simp only [shA, Bool.and_eq_true, decide_eq_true_eq, inU_iff, List.length_map]
 exact ⟨⟨h5, h2⟩, by omega⟩
theorem shR_mirror {ss l : List (List Tm)} {k n : Int} (h : shR ss k n = some l) : (trR (-1) ss k).isSome = true := by
 obtain ⟨h1, h2, _⟩ := shR_asked h
 rw [trR_neg h1 ((inU_iff _ _).2 h2)]
 rfl
theorem stretch_mirror {ss l : List (List Tm)} {k : Int} (h : trR 2 ss k = some l) : (trR (-1) ss k).isSome = true := by
 obtain ⟨h1, h2⟩ := trR_asked h
 rw [trR_neg h1 h2]
 rfl
theorem swR_asked {ss l : List (List Tm)} {i k : Int} (h : swR ss i k = some l) : goodSS ss = true ∧ (0 ≤ i ∧ i < ss.length) ∧ (0 ≤ k ∧ k < ss.length) ∧ l = swpL ss i.toNat k.toNat := by
 unfold swR at h
 split at h
 · rename_i hg
   cases h
   simp only [Bool.and_eq_true, inU_iff] at hg
   exact ⟨hg.1.1, hg.1.2, hg.2, rfl⟩
 · cases h
theorem swp_mem {ss : List (List Tm)} {i k : Nat} (hi : i < ss.length) (hk : k < ss.length) {p : List Tm} (hp : p ∈ swpL ss i k) : p ∈ ss := by
 obtain ⟨j, hj, rfl⟩ := List.getElem_of_mem hp
 have hl := swpL_length ss i k
 have hj' : j < ss.length := by omega
 have := swpL_get hi hk hj'
 rw [List.getElem?_eq_getElem hj] at this
 rw [Option.some.inj this]
 split
 · exact List.getElem_mem _
 · split <;> exact List.getElem_mem _
theorem swp_back {ss : List (List Tm)} {i k : Nat} (hi : i < ss.length) (hk : k < ss.length) : swpL (swpL ss i k) i k = ss := by
 have hl := swpL_length ss i k
 have hg : ∀ {j : Nat} (hj : j < ss.length), (swpL ss i k)[j]'(by omega) = if j = i then ss[k] else if j = k then ss[i] else ss[j] := by
   intro j hj
   have := swpL_get hi hk hj
   rw [List.getElem?_eq_getElem (by omega)] at this
   exact Option.some.inj this
 refine List.ext_getElem? fun j => ?_
 by_cases hj : j < ss.length
 · rw [swpL_get (by omega) (by omega) (by omega), List.getElem?_eq_getElem hj, hg hi, hg hk, hg hj]
   by_cases h1 : j = i
   · subst h1
     by_cases h2 : k = j
     · subst h2; simp
     · simp [h2]
   · by_cases h2 : j = k
     · subst h2; simp [h1]
     · simp [h1, h2]
 · rw [List.getElem?_eq_none (by rw [swpL_length, swpL_length]; omega), List.getElem?_eq_none (by omega)]
theorem swR_back {ss l : List (List Tm)} {i k : Int} (h : swR ss i k = some l) : swR l i k = some ss := by
 obtain ⟨h1, h2, h3, rfl⟩ := swR_asked h
 have hi : i.toNat < ss.length := by omega
 have hk : k.toNat < ss.length := by omega
 have hl := swpL_length ss i.toNat k.toNat
 have hg : goodSS (swpL ss i.toNat k.toNat) = true := by
   rw [goodSS_iff] at h1 ⊢
   rw [hl]
   exact ⟨fun p hp => h1.1 p (swp_mem hi hk hp), h1.2⟩
 unfold swR
 rw [hg, hl, swp_back hi hk, if_pos]
 simp only [Bool.and_eq_true, inU_iff]
 exact ⟨⟨trivial, h2⟩, h3⟩
theorem cs_sc (n : Int) (k : Tm) : ∀ q : List Tm, cg (cs k (q.map (sc n))) (n * cs k q)
 | [] => cg.of_eq (by simp [cs])
 | t :: q => by
   rw [List.map_cons, cs, cs, Int.mul_add]
   refine cg.add ?_ (cs_sc n k q)
   have e : ordT (sc n t) k = ordT t k := rfl
   rw [e]
   split
   · exact (cg_W _).trans (cg.of_eq (Int.mul_comm _ _))
   · exact cg.of_eq (by simp)
theorem mix_back {n : Int} {p q : List Tm} (hp : Can p) : mixF (-n) (mixF n p q) q = p := by
 refine Can.uniq (mixF_can (mixF_can hp)) hp fun k => ?_
 refine (cs_mixF (-n) k q _).trans ?_
 refine ((cs_mixF n k q p).add (cs_sc (-n) k q)).trans ?_
 refine (((cg.refl (cs k p)).add (cs_sc n k q)).add (cg.refl _)).trans (cg.of_eq ?_)
 rw [Int.neg_mul]
 omega
theorem mixR_asked {ss l : List (List Tm)} {i k n : Int} (h : mixR ss i k n = some l) : goodSS ss = true ∧ (0 ≤ i ∧ i < ss.length) ∧ (0 ≤ k ∧ k < ss.length) ∧ i ≠ k ∧ (-100 ≤ n ∧ n ≤ 100) ∧ l = mixL ss i.toNat k.toNat n ∧ goodSS l = true := by
 unfold mixR at h
 split at h
 · rename_i hg
   cases h
   simp only [mixA, Bool.and_eq_true, inU_iff, Bool.not_eq_true', beq_eq_false_iff_ne, decide_eq_true_eq] at hg
   exact ⟨hg.1.1.1.1.1, hg.1.1.1.1.2, hg.1.1.1.2, hg.1.1.2, hg.1.2, rfl, hg.2⟩
 · cases h
theorem mixL_back {ss : List (List Tm)} {i k : Nat} {n : Int} (hi : i < ss.length) (hk : k < ss.length) (hne : i ≠ k) (hc : Can ss[i]) : mixL (mixL ss i k n) i k (-n) = ss := by
 have hl := mixL_length ss i k n
 have hg : ∀ {j : Nat} (hj : j < ss.length), (mixL ss i k n)[j]'(by omega) = if j = i then mixF n ss[i] ss[k] else ss[j] := by
   intro j hj
   have := mixL_get (n := n) hi hk hj
   rw [List.getElem?_eq_getElem (by omega)] at this
   exact Option.some.inj this
 refine List.ext_getElem? fun j => ?_
 by_cases hj : j < ss.length
 · have e1 : (if i = i then mixF n ss[i] ss[k] else ss[i]) = mixF n ss[i] ss[k] := if_pos rfl
   have e2 : (if k = i then mixF n ss[i] ss[k] else ss[k]) = ss[k] := if_neg fun e => hne e.symm
   rw [mixL_get (by omega) (by omega) (by omega), List.getElem?_eq_getElem hj, hg hi, hg hk, hg hj, e1, e2, mix_back hc]
   by_cases h1 : j = i
   · subst h1; simp
   · simp [h1]
 · rw [List.getElem?_eq_none (by rw [mixL_length, mixL_length]; omega), List.getElem?_eq_none (by omega)]
theorem mixR_back {ss l : List (List Tm)} {i k n : Int} (h : mixR ss i k n = some l) : mixR l i k (-n) = some ss := by
 obtain ⟨h1, h2, h3, hne, h4, rfl, h6⟩ := mixR_asked h
 have hi : i.toNat < ss.length := by omega
 have hk : k.toNat < ss.length := by omega
 obtain ⟨_, _, hall⟩ := goodSS_all h1
 obtain ⟨_, k2, k3⟩ := hall _ (List.getElem_mem hi)
 have hb := mixL_back (n := n) hi hk (by omega) (good_can k2 k3)
 have hl := mixL_length ss i.toNat k.toNat n
 unfold mixR
 rw [hb, h1, Bool.and_true, if_pos]
 simp only [mixA, Bool.and_eq_true, inU_iff, Bool.not_eq_true', beq_eq_false_iff_ne, decide_eq_true_eq, hl]
 exact ⟨⟨⟨⟨h6, h2⟩, h3⟩, hne⟩, by omega⟩
open Go.Ab Ints
theorem store2_new {lim : Nat} {H : AHeap} {p q x y : Value} (hl : lim ≤ H.next) : storeH lim (H.alloc [p, q]) 2 (.pointer (some ⟨H.next, 0, none⟩)) (.agg #[x, y]) = some (undef, H.alloc [x, y]) := by
 rw [store2 hl (alloc_new _ _), alloc_put]
structure BoxP (H H1 : AHeap) (p : Nat) (n : Int) : Prop where
 ext : Ext H H1
 ge : H.next ≤ p
 lt : p < H1.next
 blk : H1.blk p = some [vi n, vi 0]
theorem BoxP.mk' (H : AHeap) (n : Int) : BoxP H (H.alloc [vi n, vi 0]) H.next n := ⟨Ext.alloc _ _, Nat.le_refl _, Nat.lt_succ_self _, alloc_new _ _⟩
theorem BoxP.mono {H H1 H2 : AHeap} {p : Nat} {n : Int} (h : BoxP H H1 p n) (hx : Ext H1 H2) : BoxP H H2 p n := ⟨h.ext.trans hx, h.ge, Nat.lt_of_lt_of_le h.lt hx.next, by rw [hx.blk _ h.lt]; exact h.blk⟩
theorem BoxP.c0 {H H1 : AHeap} {p : Nat} {n : Int} (h : BoxP H H1 p n) : H1.cell p 0 = some (vi n) := (two2 h.blk).1
theorem BoxP.c1 {H H1 : AHeap} {p : Nat} {n : Int} (h : BoxP H H1 p n) : H1.cell p 1 = some (vi 0) := (two2 h.blk).2
theorem BoxP.all {H H1 : AHeap} {p : Nat} {n : Int} (h : BoxP H H1 p n) : loadNV H1 2 (.pointer (some ⟨p, 0, none⟩)) = some (.agg #[vi n, vi 0]) := load2 h.blk
theorem dyInt_ok (lim : Nat) (n : Int) (H : AHeap) (hl : lim ≤ H.next) : ACalls Tryz.prog lim n_spec_dyInt [.int .i64 n] H fun v H' => v = .agg #[vi n, vi 0] ∧ Ext H H' := by
 refine is_spec_dyInt.go rfl ?_
 unfold c_spec_dyInt
 refine s_reg ?_
 simp only [o_eff, o_nil, EOp.ev, env0, gu, setD, List.set, xsj, xel]
 have hx := Ext.alloc H [.int .i64 0, .int .i64 0]
 have hb : (H.alloc [.int .i64 0, .int .i64 0]).blk H.next = some [.int .i64 0, .int .i64 0] := alloc_new _ _
 generalize H.alloc [.int .i64 0, .int .i64 0] = H1 at hx hb ⊢
 have hf : fillV [.int .i64 0, .int .i64 0] [(0, 1, .int .i64 n)] = some [vi n, vi 0] := by simp [fillV, cellsV]
 refine s_reg ?_
 simp only [o_pure, o_eff, o_nil, POp.ev, Opd.ev, EOp.ev, gv, setD, List.map, xms, xsj, xel, hf, store2 (lim := lim) hl hb]
 refine s_ret1 ?_
 simp +decide only [pfr, resV, resOne, gv, xsj, xel, load2 (put_same _ _ _)]
 exact ⟨trivial, Chg.ext hx (Chg.put _ _ _) (Nat.le_refl _)⟩
theorem dyCmp0_ok (lim : Nat) (a b : Int) (H : AHeap) (hl : lim ≤ H.next) (ha : a.natAbs ≤ 1000000) (hb : b.natAbs ≤ 1000000) :
   ACalls Tryz.prog lim n_spec_dyCmp [.agg #[vi a, vi 0], .agg #[vi b, vi 0]] H fun v H' => v = .int .i64 (sgn3 (a - b)) ∧ Ext H H' := by
 have h := dyCmp_ok lim a b 0 0 H hl (by omega) (by omega) (by omega) (by omega)
 refine ACalls.mono h ?_
 rintro v H' ⟨rfl, hx⟩
 exact ⟨by simp, hx⟩
def inP (n : Int) : Bool := decide (-8 ≤ n) && decide (n ≤ 8)
def ptB (l : List Int) : Bool := l.all inP && (decide (1 ≤ (l.length : Int)) && decide ((l.length : Int) ≤ 3))
theorem vaPoint_ok (lim : Nat) (s : Value) (l : List Int) (H : AHeap) (hl : lim ≤ H.next) (hs : SlP H s l) (hn : l.length ≤ 1000000) (hb : ∀ n ∈ l, n.natAbs ≤ 1000000) :
   ACalls Tryz.prog lim n_spec_vaPoint [s] H fun v H' => v = .bool (ptB l) ∧ Ext H H' := by
 refine is_spec_vaPoint.go rfl ?_
 unfold c_spec_vaPoint
 refine s_reg ?_
 simp only [o_pure, o_nil, POp.ev, Opd.ev, env0, gu, setD, List.set, xsj, xel]
 refine s_assoc (s_reg ?_)
 simp only [o_pure, o_nil, POp.ev, Opd.ev, gv, setD, List.set, xsj, xel, hs.lenV]
 refine s_block ?_
 refine s_loop1 (fun k e' H' => ∃ (i : Nat) (x2 : Value), i + k = l.length ∧ l.all inP = (l.drop i).all inP ∧ Ext H H' ∧ e' = [s, .bool false, x2, s, .int .i64 l.length, .int .i64 i]) l.length ⟨0, _, by omega, rfl, Ext.refl _, rfl⟩ ?_
 rintro k e' H' ⟨i, x2, hik, hall, hx, rfl⟩
 have hnx := hx.next
 refine s_test ?_
 simp only [o_pure, o_nil, POp.ev, Opd.ev, gv, setD, xsj, xel, binV, ne_eq, xnt, if_false]
 refine Test.split (fun hlt => ?_) (fun hlt => ?_)
 · have hlt' : i < l.length := by simpa using hlt
   obtain ⟨b1, o1, h1, hat⟩ := (hs.ext hx).at hlt'
   have hbi := hb _ (List.getElem_mem hlt')
   rw [List.drop_eq_getElem_cons hlt', List.all_cons] at hall
   generalize l[i] = n at hat hbi hall
   refine s_skip1 ?_
   simp +decide only [pqn]
   refine s_block ?_
   refine s_reg ?_
   simp only [o_pure, o_eff, o_nil, POp.ev, Opd.ev, EOp.ev, gv, setD, List.set, xsj, xel, h1, hat.all, store2_new (lim := lim) (H := H') (by omega)]
   have hB := BoxP.mk' H' n
   generalize H'.alloc [vi n, vi 0] = H1 at hB ⊢
   generalize H'.next = q at hB hnx ⊢
   have hx1 := hx.trans hB.ext
   have hnx1 := hx1.next
   refine s_test1_I (!inP n) (Ext H) ?_ (fun H2 hx2 hg => ?_) (fun H2 hx2 hg => ?_)
   · simp only [o_pure, o_callF, POp.ev, Opd.ev, gv, setD, List.map, xsj, xel, hB.all]
     refine (dyGood_ok lim n 0 H1 (by omega) (by omega) (.inl rfl)).mono ?_
     rintro _ H2 ⟨rfl, hx2⟩
     have hB2 := hB.mono hx2
     have hn2 := hx2.next
     have d9 : decide ((0 : Int) > 9) = false := by decide
     simp only [o_cont, o_pure, o_callN, o_guard, gk_ff, POp.ev, Opd.ev, gv, setD, List.map, xsj, xel, pickV, binV, load1V, unV, fadV, ne_eq, xnt, if_false, Bool.not_true, Nat.zero_add, hB2.c1, d9, hB2.all]
     refine (dyInt_ok _ _ _ (Nat.le_refl _)).use ?_
     rintro _ H3 ⟨rfl, hx3⟩ _
     have hn3 := hx3.next
     simp only [o_cont, o_callF, o_guard, gk_ff, Opd.ev, gv, setD, List.map]
     refine (dyCmp0_ok lim n (-8) H3 (by omega) hbi (by decide)).mono ?_
     rintro _ H4 ⟨rfl, hx4⟩
     have hn4 := hx4.next
     have hB4 := hB2.mono (hx3.trans hx4)
     have e1 : decide (sgn3 (n - -8) < 0) = decide (n < -8) := by
       rcases sgn3_cases (n - -8) with ⟨h, e⟩ | ⟨h, e⟩ | ⟨h, e⟩ <;> rw [e] <;> simp <;> omega
     simp only [o_cont, o_pure, o_guard, gk_ff, POp.ev, Opd.ev, gv, setD, xsj, xel, pickV, binV, ne_eq, xnt, if_false, e1]
     cases hA : decide (n < -8)
     · simp only [o_pure, o_callN, o_guard, gk_ff, POp.ev, Opd.ev, gv, setD, List.map, xsj, xel, hB4.all]
       refine (dyInt_ok _ _ _ (Nat.le_refl _)).use ?_
       rintro _ H5 ⟨rfl, hx5⟩ _
       have hn5 := hx5.next
       simp only [o_cont, o_callF, o_guard, gk_ff, Opd.ev, gv, setD, List.map]
       refine (dyCmp0_ok lim 8 n H5 (by omega) (by decide) hbi).mono ?_
       rintro _ H6 ⟨rfl, hx6⟩
       have e2 : decide (sgn3 (8 - n) < 0) = decide (8 < n) := by
         rcases sgn3_cases (8 - n) with ⟨h, e⟩ | ⟨h, e⟩ | ⟨h, e⟩ <;> rw [e] <;> simp <;> omega
       simp only [o_cont, o_pure, o_guard, gk_ff, o_nil, POp.ev, Opd.ev, gv, setD, xsj, xel, pickV, binV, ne_eq, xnt, if_false, e2]
       have hA' := of_decide_eq_false hA
       refine ⟨?_, trivial, hx1.trans (hx2.trans (hx3.trans (hx4.trans (hx5.trans hx6))))⟩
       congr 1
       unfold inP
       rw [Bool.eq_iff_iff]
       simp
       omega
     · simp only [o_pure, o_guard, gk_tf, o_nil, POp.ev, Opd.ev, gv, setD, xsj, xel, pickV]
       have hA' := of_decide_eq_true hA
       refine ⟨?_, trivial, hx1.trans (hx2.trans (hx3.trans hx4))⟩
       congr 1
       unfold inP
       rw [Bool.eq_iff_iff]
       simp
       omega
   · refine s_reg ?_
     simp only [o_pure, o_nil, POp.ev, Opd.ev, setD, List.set, xsj, xel]
     refine s_ret1 ?_
     simp +decide only [pqr, pbr, pfr, resV, resOne, gv, xsj, xel]
     have hg' : inP n = false := by simpa using hg
     rw [hg', Bool.false_and] at hall
     unfold ptB
     rw [hall]
     exact ⟨rfl, hx2⟩
   · refine s_skip1 ?_
     simp +decide only [pqn, pbn]
     refine s_reg1 ?_
     simp only [o_pure, o_nil, POp.ev, Opd.ev, gv, setD, List.set, xsj, xel, binV, ne_eq, xnt, if_false, add1 (i := i) (by omega)]
     simp +decide only [pqn]
     have hg' : inP n = true := by simpa using hg
     rw [hg', Bool.true_and] at hall
     exact Round.mk (k - 1) (by omega) ⟨i + 1, _, by omega, hall, hx2, rfl⟩
 · have hi : i = l.length := by simp at hlt; omega
   subst hi
   refine s_exit1 ?_
   simp +decide only [pqn, pqe, pbe, reduceIte]
   rw [List.drop_of_length_le (Nat.le_refl _)] at hall
   refine s_reg ?_
   simp only [o_pure, o_callF, POp.ev, Opd.ev, gv, setD, List.map, xsj, xel, hs.lenV]
   refine (l1In_ok _ _ _ _ _).eq ?_
   simp only [o_cont, o_pure, o_nil, POp.ev, Opd.ev, gv, setD, List.set, xsj, xel]
   refine s_ret1 ?_
   simp +decide only [pfr, resV, resOne, gv, xsj, xel]
   unfold ptB
   rw [hall]
   exact ⟨rfl, hx⟩
def byteC (l : List Int) : List Value := l.map fun n => .int .u8 n
structure SlB (H : AHeap) (s : Value) (l : List Int) : Prop where
 sl : Sl H s l.length 1 (byteC l)
 rng : ∀ n ∈ l, 0 ≤ n ∧ n ≤ 255
 len : l.length ≤ 4000000000000000000
theorem SlB.ext {H H' : AHeap} {s : Value} {l : List Int} (h : SlB H s l) (hx : Ext H H') : SlB H' s l := ⟨Sl.keep h.sl (Keep.of_ext hx (Nat.le_refl _)) (Nat.le_refl _), h.rng, h.len⟩
structure Cu (B H : AHeap) (q : Nat) (s : Value) (m : Nat) : Prop where
 ext : Ext B H
 ge : B.next ≤ q
 lt : q < H.next
 blk : ∃ (a : Nat) (z : Int), H.blk q = some [s, .int .i64 a, .int .u64 z] ∧ a ≤ m
theorem Cu.of_ext {B H H' : AHeap} {q m : Nat} {s : Value} (h : Cu B H q s m) (hx : Ext H H') : Cu B H' q s m :=
 ⟨h.ext.trans hx, h.ge, Nat.lt_of_lt_of_le h.lt hx.next, by rw [hx.blk _ h.lt]; exact h.blk⟩
theorem Cu.le {B H : AHeap} {q m m' : Nat} {s : Value} (h : Cu B H q s m) (hm : m ≤ m') : Cu B H q s m' :=
 ⟨h.ext, h.ge, h.lt, by obtain ⟨a, z, h1, h2⟩ := h.blk; exact ⟨a, z, h1, Nat.le_trans h2 hm⟩⟩
theorem Cu.chg {B H H' : AHeap} {q m b : Nat} {s : Value} (h : Cu B H q s m) (hc : Chg b H H') (hb : B.next ≤ b) (hne : q ≠ b) : Cu B H' q s m :=
 ⟨Chg.ext h.ext hc hb, h.ge, Nat.lt_of_lt_of_le h.lt hc.next, by rw [hc.blk _ h.lt hne]; exact h.blk⟩
theorem store3f {lim b : Nat} {H : AHeap} {p q r x : Value} {k : IntKind} {n : Int} (hx : x = .int k n) (hl : lim ≤ b) (h : H.blk b = some [p, q, r]) :
   storeH lim H 1 (.pointer (some ⟨b, 1, none⟩)) x = some (undef, H.put b [p, x, r]) ∧ storeH lim H 1 (.pointer (some ⟨b, 2, none⟩)) x = some (undef, H.put b [p, q, x]) := by
 subst hx
 constructor
 · simp [storeH, h, cellsV, putL, hl]
 · simp [storeH, h, cellsV, putL, hl]
theorem u64_wrap (n : Int) : IntKind.u64.wrap n = n % 18446744073709551616 := by
 simp [IntKind.wrap, IntKind.bits, IntKind.signed]
theorem and255 (a : Int) : ∃ r : Int, 0 ≤ r ∧ r ≤ 255 ∧ IntKind.u64.wrap ((BitVec.ofInt IntKind.u64.bits a &&& BitVec.ofInt IntKind.u64.bits 255).toNat : Int) = r ∧ IntKind.i64.wrap r = r := by
 have h1 : (BitVec.ofInt IntKind.u64.bits a &&& BitVec.ofInt IntKind.u64.bits 255).toNat ≤ 255 := by
   rw [BitVec.toNat_and]
   exact Nat.le_trans Nat.and_le_right (by decide)
 generalize (BitVec.ofInt IntKind.u64.bits a &&& BitVec.ofInt IntKind.u64.bits 255).toNat = r at h1
 exact ⟨r, by omega, by omega, by rw [u64_wrap]; omega, wr_nat (by omega)⟩
theorem next_ok (lim q m : Nat) (B : AHeap) (s : Value) (l : List Int) (H : AHeap) (hl : lim ≤ B.next) (hs : SlB B s l) (hc : Cu B H q s m) (hm : m ≤ 4000000000000000000) :
   ACalls Tryz.prog lim n_spec_l1Cur_next [.pointer (some ⟨q, 0, none⟩)] H fun v H' => (∃ x : Int, v = .int .i64 x ∧ 0 ≤ x ∧ x ≤ 255) ∧ Cu B H' q s (m + 1) ∧ Chg q H H' := by
 obtain ⟨hB, hge, hlt, a, z, hb, ha⟩ := hc
 have hs1 := hs.ext hB
 have c0 : H.cell q 0 = some s := by simp [AHeap.cell, hb]
 have c1 : H.cell q 1 = some (.int .i64 a) := by simp [AHeap.cell, hb]
 have hlen := hs1.sl.lenV
 refine is_spec_l1Cur_next.go rfl ?_
 unfold c_spec_l1Cur_next
 refine s_reg ?_
 simp only [o_pure, o_nil, POp.ev, Opd.ev, env0, gu, setD, List.set, xsj, xel]
 refine s_reg ?_
 simp only [o_pure, o_nil, POp.ev, Opd.ev, setD, List.set, xsj, xel]
 refine s_cut (fun e' H' => H' = H ∧ ∃ x : Int, 0 ≤ x ∧ x ≤ 255 ∧ e' = [.pointer (some ⟨q, 0, none⟩), .int .i64 0, .int .i64 x]) ?_ ?_
 · refine s_test1_same (decide ((a : Int) < (l.length : Int))) ?_ (fun hg => ?_) (fun hg => ?_)
   · simp only [o_pure, o_nil, POp.ev, Opd.ev, gv, setD, xsj, xel, binV, load1V, nilchkV, fadV, ne_eq, xnt, if_false, Nat.zero_add, Nat.add_zero, c0, c1, hlen]
     simp
   · have hlt' : a < l.length := by have := of_decide_eq_true hg; omega
     obtain ⟨b1, o1, g1, g2, g3⟩ := hs1.sl.cell .i64 (i := (a : Int)) (by omega) (by omega)
     have g3' : H.cell b1 o1 = some (.int .u8 l[a]) := by
       rw [g3]
       simp [byteC, hlt']
     obtain ⟨r1, r2⟩ := hs.rng _ (List.getElem_mem hlt')
     have w1 : IntKind.i64.wrap l[a] = l[a] := wr_id (by omega) (by omega)
     refine s_reg1 ?_
     simp only [o_pure, o_nil, POp.ev, Opd.ev, gv, setD, List.set, xsj, xel, convV, load1V, nilchkV, fadV, Nat.zero_add, Nat.add_zero, c0, c1, g1, g3', w1]
     simp +decide only [pqn]
     exact ⟨trivial, _, r1, r2, rfl⟩
   · refine s_skip1 ?_
     simp +decide only [pqn]
     exact ⟨trivial, 0, by omega, by omega, rfl⟩
 rintro e' H' ⟨rfl, x, hx0, hx1, rfl⟩
 obtain ⟨st1, _⟩ := store3f (lim := lim) (x := .int .i64 ((a + 1 : Nat) : Int)) rfl (by omega) hb
 refine s_reg ?_
 simp only [o_pure, o_eff, o_nil, POp.ev, Opd.ev, EOp.ev, gv, setD, xsj, xel, binV, load1V, nilchkV, fadV, ne_eq, xnt, if_false, Nat.zero_add, c1, add1 (i := a) (by omega), st1]
 have hb1 : (H'.put q [s, .int .i64 ((a + 1 : Nat) : Int), .int .u64 z]).blk q = some [s, .int .i64 ((a + 1 : Nat) : Int), .int .u64 z] := put_same _ _ _
 have hch1 := Chg.put q H' [s, .int .i64 ((a + 1 : Nat) : Int), .int .u64 z]
 generalize H'.put q [s, .int .i64 ((a + 1 : Nat) : Int), .int .u64 z] = H1 at hb1 hch1 ⊢
 have d2 : H1.cell q 2 = some (.int .u64 z) := by simp [AHeap.cell, hb1]
 have st2 : ∀ y : Int, storeH lim H1 1 (.pointer (some ⟨q, 2, none⟩)) (.int .u64 y) = some (undef, H1.put q [s, .int .i64 ((a + 1 : Nat) : Int), .int .u64 y]) := fun y => (store3f (lim := lim) (x := .int .u64 y) rfl (by omega) hb1).2
 refine s_reg ?_
 simp only [o_pure, o_eff, o_nil, POp.ev, Opd.ev, EOp.ev, gv, setD, xsj, xel, binV, convV, load1V, nilchkV, fadV, ne_eq, xnt, if_false, Nat.zero_add, d2, st2]
 have hy : ∃ y : Int, 0 ≤ y ∧ y < 18446744073709551616 ∧ IntKind.u64.wrap (IntKind.u64.wrap (IntKind.u64.wrap (z * 6364136223846793005) + IntKind.u64.wrap x) + 1442695040888963407) = y := ⟨_, by rw [u64_wrap]; omega, by rw [u64_wrap]; omega, rfl⟩
 obtain ⟨y, hy0, hy1, hy⟩ := hy
 rw [hy]
 have hb2 : (H1.put q [s, .int .i64 ((a + 1 : Nat) : Int), .int .u64 y]).blk q = some [s, .int .i64 ((a + 1 : Nat) : Int), .int .u64 y] := put_same _ _ _
 have hch2 := hch1.trans (Chg.put q H1 [s, .int .i64 ((a + 1 : Nat) : Int), .int .u64 y])
 generalize H1.put q [s, .int .i64 ((a + 1 : Nat) : Int), .int .u64 y] = H2 at hb2 hch2 ⊢
 have e0 : H2.cell q 0 = some s := by simp [AHeap.cell, hb2]
 have e1 : H2.cell q 1 = some (.int .i64 ((a + 1 : Nat) : Int)) := by simp [AHeap.cell, hb2]
 have e2 : H2.cell q 2 = some (.int .u64 y) := by simp [AHeap.cell, hb2]
 have hcu : Cu B H2 q s (m + 1) := ⟨Chg.ext hB hch2 hge, hge, Nat.lt_of_lt_of_le hlt hch2.next, _, _, hb2, by omega⟩
 refine s_test_same (decide (((a + 1 : Nat) : Int) ≤ (l.length : Int))) ?_ (fun hg => ?_) (fun hg => ?_)
 · simp only [o_pure, o_nil, POp.ev, Opd.ev, gv, setD, xsj, xel, binV, load1V, nilchkV, fadV, ne_eq, xnt, if_false, Nat.zero_add, Nat.add_zero, e0, e1, hlen]
   simp
 · refine s_reg ?_
   simp only [o_pure, o_nil, POp.ev, Opd.ev, gv, setD, List.set, xsj, xel]
   refine s_ret1 ?_
   simp +decide only [pqr, pfr, resV, resOne, gv, xsj, xel]
   exact ⟨⟨x, rfl, hx0, hx1⟩, hcu, hch2⟩
 · refine s_skip1 ?_
   simp +decide only [pqn]
   refine s_reg ?_
   have v1 : ¬ ((40 : Int) < 0) := by decide
   obtain ⟨r, r1, r2, r3, r4⟩ := and255 (y.fdiv (2 ^ min (40 : Int).toNat IntKind.u64.bits))
   simp only [o_pure, o_nil, POp.ev, Opd.ev, gv, setD, List.set, xsj, xel, binV, convV, load1V, nilchkV, fadV, ne_eq, xnt, if_false, Nat.zero_add, e2, v1, r3, r4]
   refine s_ret1 ?_
   simp +decide only [pfr, resV, resOne, gv, xsj, xel]
   exact ⟨⟨r, rfl, r1, r2⟩, hcu, hch2⟩
end Go.Proofs.YtmdeppkfboaepaaGreat
