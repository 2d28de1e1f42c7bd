/- Parts of the proof of a statement of this seat: contracts of functions that the law calls, or the law's own row; no condition. -/
import Derived.Test.YtmdeppkfboaepaaGreatC
import Derived.Test.YtmdeppkfboaepaaGreatAbVec
import Derived.Test.YtmdeppkfboaepaaGreatM1
/- Systems of polynomials, part 8 of the walk: the implementation's test of a system, its copy and its swapped system; no condition beyond stated lengths. -/
namespace Go.Proofs.YtmdeppkfboaepaaGreat
open Go.Ab
set_option linter.unusedSimpArgs false
set_option linter.unusedVariables false
theorem degF_pos (k : Int) : ∀ (p : List Tm) (m : Int), decide (degF k m p > 0) = (decide (m > 0) || p.any fun t => decide (pw t k > 0))
 | [], m => by simp [degF]
 | t :: l, m => by
   rw [degF, degF_pos k l, List.any_cons, ← Bool.or_assoc]
   congr 1
   by_cases h : m > pw t k
   · rw [if_pos h]
     by_cases h2 : m > 0
     · simp [h2]
     · have : ¬ pw t k > 0 := by omega
       simp [h2, this]
   · rw [if_neg h]
     by_cases h2 : pw t k > 0
     · simp [h2]
     · have : ¬ m > 0 := by omega
       simp [h2, this]
theorem needF_eq (n : Nat) : ∀ p : List Tm, needF n p = ((decide (n > 0) || !p.any fun t => decide (t.x > 0)) && (decide (n > 1) || !p.any fun t => decide (t.y > 0)) && (decide (n > 2) || !p.any fun t => decide (t.z > 0)))
 | [] => by simp [needF]
 | t :: l => by
   have e0 : decide ((0 : Int) ≥ (n : Int)) = !decide (n > 0) := by by_cases h : n > 0 <;> simp [h] <;> omega
   have e1 : decide ((1 : Int) ≥ (n : Int)) = !decide (n > 1) := by by_cases h : n > 1 <;> simp [h] <;> omega
   have e2 : decide ((2 : Int) ≥ (n : Int)) = !decide (n > 2) := by by_cases h : n > 2 <;> simp [h] <;> omega
   rw [needF, needF_eq n l, expF, e0, e1, e2]
   simp only [List.any_cons]
   generalize decide (n > 0) = a
   generalize decide (n > 1) = b
   generalize decide (n > 2) = c
   generalize decide (t.x > 0) = x
   generalize decide (t.y > 0) = y
   generalize decide (t.z > 0) = z
   generalize (l.any fun t => decide (t.x > 0)) = u
   generalize (l.any fun t => decide (t.y > 0)) = v
   generalize (l.any fun t => decide (t.z > 0)) = w
   revert a b c x y z u v w
   decide
theorem need_from (n : Nat) (p : List Tm) : needF n p = fromB n p := by
 rw [needF_eq, fromB, degF_pos, degF_pos, degF_pos]
 simp [pw]
theorem isSystem_ok (lim : Nat) (s : Value) (ss : List (List Tm)) (H : AHeap) (hl : lim ≤ H.next) (hs : SlSS H s ss) (hn : ss.length ≤ 1000000) (hn2 : ∀ p ∈ ss, p.length ≤ 1000000) : ACalls Tryz.prog lim n_impl_isSystem [s] H fun v H' => v = .bool (goodSS ss) ∧ Ext H H' := by
 refine is_impl_isSystem.go rfl ?_
 unfold c_impl_isSystem
 refine s_reg ?_
 simp only [o_pure, o_nil, POp.ev, Opd.ev, env0, gu, setD, List.set, xsj, xel]
 refine s_assoc (s_reg ?_)
 simp only [o_pure, o_nil, POp.ev, Opd.ev, gv, setD, List.set, xsj, xel, hs.lenV]
 refine s_block ?_
 refine s_loop1 (fun j e' H' => ∃ (i : Nat) (x : Value), i + j = ss.length ∧ sysF ss.length ss = sysF ss.length (ss.drop i) ∧ Ext H H' ∧ e' = [s, .bool false, x, s, .int .i64 ss.length, .int .i64 i]) ss.length ⟨0, _, by omega, rfl, Ext.refl _, rfl⟩ ?_
 rintro j e' H' ⟨i, x, hik, hall, hx, rfl⟩
 have hnx := hx.next
 refine s_test ?_
 simp only [o_pure, o_nil, POp.ev, Opd.ev, gv, setD, xsj, xel, binV, ne_eq, xnt, if_false]
 refine Test.split (fun hlt => ?_) (fun hlt => ?_)
 · have hlt' : i < ss.length := by simpa using hlt
   obtain ⟨b1, o1, s1, h1, h2, h3⟩ := (hs.ext hx).at hlt'
   have hpl := hn2 _ (List.getElem_mem hlt')
   rw [List.drop_eq_getElem_cons hlt', sysF] at hall
   refine s_skip1 ?_
   simp +decide only [pqn]
   refine s_block ?_
   refine s_reg ?_
   simp only [o_pure, o_nil, POp.ev, Opd.ev, gv, setD, List.set, xsj, xel, load1V, h1, h2]
   refine s_test1_I (!(goodP ss[i] && fromB ss.length ss[i])) (Ext H') ?_ (fun H2 hx2 hg => ?_) (fun H2 hx2 hg => ?_)
   · simp only [o_pure, o_callF, POp.ev, Opd.ev, gv, setD, List.map, xsj, xel]
     refine (isPoly_ok lim _ _ _ (by omega) h3 (by omega)).mono ?_
     rintro _ H2 ⟨rfl, hx2⟩
     have hnx2 := hx2.next
     cases hgp : goodP ss[i]
     · simp only [o_cont, o_pure, o_guard, gk_tf, o_nil, POp.ev, Opd.ev, gv, setD, xsj, xel, pickV, unV, Bool.not_false]
       simp [hx2]
     · simp only [o_cont, o_pure, o_callF, o_guard, gk_ff, POp.ev, Opd.ev, gv, setD, List.map, xsj, xel, unV, Bool.not_true, hs.lenV]
       refine (needs_ok lim _ _ _ _ (by omega) (h3.ext hx2) (by omega)).mono ?_
       rintro _ H3 ⟨rfl, hx3⟩
       simp only [o_cont, o_pure, o_guard, gk_ff, o_nil, POp.ev, Opd.ev, gv, setD, xsj, xel, pickV, unV, need_from]
       simp [hx2.trans hx3]
   · refine s_reg ?_
     simp only [o_pure, o_nil, POp.ev, Opd.ev, setD, List.set, xsj, xel]
     refine s_ret1 ?_
     simp +decide only [pqr, pbr, pfr, resV, resOne, gv, xsj, xel]
     simp only [Bool.not_eq_true'] at hg
     refine ⟨?_, hx.trans hx2⟩
     rw [hg, Bool.false_and] at hall
     simp [goodSS, hall]
   · refine s_skip1 ?_
     simp +decide only [pqn, pbn]
     refine s_reg1 ?_
     simp only [o_pure, o_nil, POp.ev, Opd.ev, gv, setD, List.set, xsj, xel, binV, ne_eq, xnt, if_false, add1 (i := i) (by omega)]
     simp +decide only [pqn]
     simp only [Bool.not_eq_false'] at hg
     rw [hg, Bool.true_and] at hall
     exact Round.mk (j - 1) (by omega) ⟨i + 1, _, by omega, hall, hx.trans hx2, rfl⟩
 · have hge : i = ss.length := by simp at hlt; omega
   subst hge
   refine s_exit1 ?_
   simp +decide only [pqn, pqe, pbe, reduceIte]
   refine s_reg ?_
   simp only [o_pure, o_callF, POp.ev, Opd.ev, gv, setD, List.map, xsj, xel, hs.lenV]
   refine (inside_ok _ _ _ _ _).eq ?_
   simp only [o_cont, o_pure, o_nil, POp.ev, Opd.ev, gv, setD, List.set, xsj, xel]
   refine s_ret1 ?_
   simp +decide only [pfr, resV, resOne, gv, xsj, xel]
   refine ⟨?_, hx⟩
   rw [List.drop_length, sysF] at hall
   simp only [goodSS, hall, Bool.true_and]
theorem copySystem_ok (lim : Nat) (s : Value) (ss : List (List Tm)) (H : AHeap) (hl : lim ≤ H.next) (hs : SlSS H s ss) (hn : ss.length ≤ 1000000) (hn2 : ∀ p ∈ ss, p.length ≤ 1000000) : ACalls Tryz.prog lim n_impl_copySystem [s] H fun v H' => OwnSS H' H.next H'.next v ss ∧ Ext H H' := by
 refine is_impl_copySystem.go rfl ?_
 unfold c_impl_copySystem
 refine s_reg ?_
 simp only [o_pure, o_nil, POp.ev, Opd.ev, env0, gu, setD, List.set, xsj, xel]
 refine s_reg ?_
 simp only [o_pure, o_nil, POp.ev, Opd.ev, setD, List.set, xsj, xel]
 refine s_assoc (s_reg ?_)
 simp only [o_pure, o_nil, POp.ev, Opd.ev, gv, setD, List.set, xsj, xel, hs.lenV]
 refine s_block ?_
 refine s_loop1 (fun j e' H' => ∃ (n b : Nat) (vs : List Value) (bs : List Nat) (v x3 : Value), n + j = ss.length ∧ GrowX H' H.next b vs bs v (ss.take n) ∧ Ext H H' ∧ e' = [s, .slice none 0 0, v, x3, s, .int .i64 ss.length, .int .i64 n]) ss.length ⟨0, H.next, [], [], _, _, by omega, GrowX.nil' _, Ext.refl _, rfl⟩ ?_
 rintro j e' H' ⟨n, b, vs, bs, v, x3, hnj, hG, hx, rfl⟩
 have hnx := hx.next
 refine s_test ?_
 simp only [o_pure, o_nil, POp.ev, Opd.ev, gv, setD, xsj, xel, binV, ne_eq, xnt, if_false]
 refine Test.split (fun hlt => ?_) (fun hlt => ?_)
 · have hlt' : n < ss.length := by simpa using hlt
   obtain ⟨b1, o1, s1, u1, u2, u3⟩ := (hs.ext hx).at hlt'
   have hpl := hn2 _ (List.getElem_mem hlt')
   refine s_skip1 ?_
   simp +decide only [pqn]
   refine s_block ?_
   refine s_reg ?_
   simp only [o_pure, o_nil, POp.ev, Opd.ev, gv, setD, List.set, xsj, xel, load1V, u1, u2]
   refine s_reg1 ?_
   simp only [o_pure, o_callF, POp.ev, Opd.ev, gv, setD, List.map, xsj, xel]
   refine (clone_ok lim _ _ _ (by omega) u3 (by omega)).mono ?_
   rintro s4 H2 ⟨c, hc1, hc2, hv4, hx4⟩
   have hcv : cellsV s4 = some [s4] := Vec.cellsV hv4
   obtain ⟨v', H3, b', g1, g2, g3⟩ := hG.push (lim := lim) (by omega) hx (Nat.le_refl _) (by omega) hx4 hc1 hc2 hv4 (by rw [List.length_take]; omega)
   simp only [o_cont, o_pure, o_eff, o_nil, POp.ev, Opd.ev, EOp.ev, gv, setD, List.set, List.map, xsj, xel, bsliceV _ _ hcv, g1]
   simp +decide only [pqn, pbn]
   refine s_reg1 ?_
   simp only [o_pure, o_nil, POp.ev, Opd.ev, gv, setD, List.set, xsj, xel, binV, ne_eq, xnt, if_false, add1 (i := n) (by omega)]
   simp +decide only [pqn]
   refine Round.mk (j - 1) (by omega) ⟨n + 1, b', vs ++ [s4], bs ++ [c], v', _, by omega, ?_, g3, rfl⟩
   rw [List.take_add_one, List.getElem?_eq_getElem hlt']
   exact g2
 · have hge : n = ss.length := by simp at hlt; omega
   subst hge
   refine s_exit1 ?_
   simp +decide only [pqn, pqe, pbe, reduceIte]
   refine s_reg ?_
   simp only [o_pure, o_nil, POp.ev, Opd.ev, gv, setD, List.set, xsj, xel]
   refine s_ret1 ?_
   simp +decide only [pfr, resV, resOne, gv, xsj, xel]
   rw [List.take_length] at hG
   exact ⟨hG.own, hx⟩
def sw (i k j : Nat) : Nat := if j = k then i else if j = i then k else j
theorem sw_inj {i k a b : Nat} (h : sw i k a = sw i k b) : a = b := by
 unfold sw at h
 split at h <;> split at h <;> (try split at h) <;> (try split at h) <;> omega
theorem set_sw {α : Type} {l : List α} {i k : Nat} {x y : α} (hx : l[i]? = some x) (hy : l[k]? = some y) (j : Nat) : ((l.set i y).set k x)[j]? = l[sw i k j]? := by
 have hi := (List.getElem?_eq_some_iff.1 hx).1
 have hk := (List.getElem?_eq_some_iff.1 hy).1
 unfold sw
 by_cases h1 : j = k
 · subst h1
   rw [if_pos rfl, List.getElem?_set_self (by simp; omega), hx]
 · rw [if_neg h1, List.getElem?_set_ne (Ne.symm h1)]
   by_cases h2 : j = i
   · subst h2
     rw [if_pos rfl, List.getElem?_set_self hi, hy]
   · rw [if_neg h2, List.getElem?_set_ne (Ne.symm h2)]
theorem nodup_sw {l : List Nat} {i k : Nat} {x y : Nat} (hx : l[i]? = some x) (hy : l[k]? = some y) (h : l.Nodup) : ((l.set i y).set k x).Nodup := by
 refine List.pairwise_iff_getElem.2 fun a b ha hb hab he => ?_
 have e1 := set_sw hx hy a
 have e2 := set_sw hx hy b
 rw [List.getElem?_eq_getElem ha] at e1
 rw [List.getElem?_eq_getElem hb, ← he, e1] at e2
 obtain ⟨l1, m1⟩ := List.getElem?_eq_some_iff.1 e1.symm
 obtain ⟨l2, m2⟩ := List.getElem?_eq_some_iff.1 (e2.symm.trans e1.symm)
 have := (List.getElem_inj h).1 (m1.trans m2.symm)
 have := sw_inj this
 omega
theorem mem_sw {l : List Nat} {i k : Nat} {x y c : Nat} (hx : l[i]? = some x) (hy : l[k]? = some y) (h : c ∈ (l.set i y).set k x) : c ∈ l := by
 rcases List.mem_or_eq_of_mem_set h with h | rfl
 · rcases List.mem_or_eq_of_mem_set h with h | rfl
   · exact h
   · exact List.mem_of_getElem? hy
 · exact List.mem_of_getElem? hx
theorem iSwap_ok (lim : Nat) (s : Value) (ss : List (List Tm)) (i k : Int) (H : AHeap) (hl : lim ≤ H.next) (hs : SlSS H s ss) (hn : ss.length ≤ 1000000) (hn2 : ∀ p ∈ ss, p.length ≤ 1000000) :
   ACalls Tryz.prog lim n_impl_SwapEquations [s, .int .i64 i, .int .i64 k] H fun v H' => ResSS H' H.next v (swR ss i k) ∧ Ext H H' := by
 refine is_impl_SwapEquations.go rfl ?_
 unfold c_impl_SwapEquations
 have hsub : IntKind.i64.wrap ((ss.length : Int) - 1) = (ss.length : Int) - 1 := by rw [IntKind.wrap_i64]; omega
 refine s_reg ?_
 simp only [o_pure, o_nil, POp.ev, Opd.ev, env0, gu, setD, List.set, xsj, xel]
 refine s_test_I (!(goodSS ss && inU ss.length i && inU ss.length k)) (Ext H) ?_ (fun H1 hx hg => ?_) (fun H1 hx hg => ?_)
 · simp only [o_pure, o_callF, POp.ev, Opd.ev, gv, setD, List.map, xsj, xel]
   refine (isSystem_ok lim _ _ _ hl hs hn hn2).mono ?_
   rintro _ H1 ⟨rfl, hx⟩
   unfold inU
   cases hg : goodSS ss
   · simp only [o_cont, o_pure, o_guard, gk_tf, o_nil, POp.ev, Opd.ev, gv, setD, xsj, xel, pickV, unV, Bool.not_false]
     simp [hx]
   · simp only [o_cont, o_pure, o_callF, o_guard, gk_ff, POp.ev, Opd.ev, gv, setD, List.map, xsj, xel, binV, unV, ne_eq, xnt, if_false, Bool.not_true, hs.lenV, hsub]
     refine (inside_ok _ _ _ _ _).eq ?_
     cases h1 : decide (0 ≤ i) && decide (i ≤ (ss.length : Int) - 1)
     · simp only [o_cont, o_pure, o_guard, gk_ff, gk_tf, o_nil, POp.ev, Opd.ev, gv, setD, xsj, xel, pickV, unV, Bool.not_false]
       simp [hx]
     · simp only [o_cont, o_pure, o_callF, o_guard, gk_ff, POp.ev, Opd.ev, gv, setD, List.map, xsj, xel, pickV, binV, unV, ne_eq, xnt, if_false, Bool.not_true, hs.lenV, hsub]
       refine (inside_ok _ _ _ _ _).eq ?_
       simp only [o_cont, o_pure, o_guard, gk_ff, o_nil, POp.ev, Opd.ev, gv, setD, xsj, xel, pickV, unV]
       simp [hx]
 · simp only [Bool.not_eq_true'] at hg
   refine s_reg ?_
   simp only [o_pure, o_nil, POp.ev, Opd.ev, setD, List.set, xsj, xel]
   refine s_ret1 ?_
   simp +decide only [pqr, pfr, resV, resOne, resL, gv, xsj, xel, Option.bind_some, xms]
   refine ⟨⟨.slice none 0 0, ?_, ?_⟩, hx⟩
   · simp [swR, hg]
   · simp [swR, hg]
     exact .inl ⟨rfl, rfl⟩
 · simp only [Bool.not_eq_false'] at hg
   have hgi := hg
   simp only [inU, Bool.and_eq_true, decide_eq_true_eq] at hgi
   obtain ⟨⟨hgd, hi1, hi2⟩, hk1, hk2⟩ := hgi
   obtain ⟨i, rfl⟩ : ∃ n : Nat, i = n := ⟨i.toNat, by omega⟩
   obtain ⟨k, rfl⟩ : ∃ n : Nat, k = n := ⟨k.toNat, by omega⟩
   have hiL : i < ss.length := by omega
   have hkL : k < ss.length := by omega
   have hR : swR ss i k = some (swpL ss i k) := by unfold swR; rw [if_pos hg]; simp
   have hnx := hx.next
   refine s_skip1 ?_
   simp +decide only [pqn]
   refine s_reg ?_
   simp only [o_pure, o_callF, POp.ev, Opd.ev, gv, setD, List.map, xsj, xel]
   refine (copySystem_ok lim _ _ _ (by omega) (hs.ext hx) hn hn2).mono ?_
   rintro v H2 ⟨hO, hx2⟩
   have hnx2 := hx2.next
   rcases hO with ⟨_, rfl⟩ | ⟨b, vs, bs, h1, h2, h3, h4, h5, h6, h7⟩
   · simp at hiL
   obtain ⟨si, ci, a1, a2, a3⟩ := h7 i _ (List.getElem?_eq_getElem hiL)
   obtain ⟨sk, ck, q1, q2, q3⟩ := h7 k _ (List.getElem?_eq_getElem hkL)
   have hcl := h1.clen
   have i1 := Vec.iad h1 .i64 hiL
   have i2 := Vec.iad h1 .i64 hkL
   rw [Nat.mul_one] at i1 i2
   have l1 := Vec.cell h1 a1
   have l2 := Vec.cell h1 q1
   obtain ⟨cs5, t1, v5⟩ := h1.put1 (lim := lim) (by omega) (Vec.cellsV q3) hiL
   obtain ⟨cs6, t2, v6⟩ := v5.put1 (lim := lim) (by omega) (Vec.cellsV a3) hkL
   simp only [o_cont, o_pure, o_nil, POp.ev, Opd.ev, gv, setD, List.set, xsj, xel]
   refine s_reg ?_
   simp only [o_pure, o_eff, o_nil, POp.ev, Opd.ev, EOp.ev, gv, setD, xsj, xel, load1V, i1, i2, l1, l2, t1, t2]
   have c1 := (Chg.put b H2 cs5).trans (Chg.put b (H2.put b cs5) cs6)
   have n1 : ((H2.put b cs5).put b cs6).next = H2.next := rfl
   generalize (H2.put b cs5).put b cs6 = H3 at c1 v6 n1 ⊢
   refine s_reg ?_
   simp only [o_pure, o_nil, POp.ev, Opd.ev, gv, setD, List.set, xsj, xel]
   refine s_ret1 ?_
   simp +decide only [pfr, resV, resOne, resL, gv, xsj, xel, Option.bind_some, xms]
   rw [hR]
   have hsw := swpL_length ss i k
   refine ⟨⟨v, rfl, .inr ⟨b, (vs.set i sk).set k si, (bs.set i ck).set k ci, ?_, by simp [h2, hsw], by omega, nodup_sw a2 q2 h4, fun hm => h5 (mem_sw a2 q2 hm), fun c hc => by have := h6 c (mem_sw a2 q2 hc); omega, fun j p hp => ?_⟩⟩, Chg.ext (hx.trans hx2) c1 (by omega)⟩
   · simp only [Option.getD_some]
     rw [hsw]
     exact v6
   · simp only [Option.getD_some] at hp
     have hj : j < ss.length := by have := (List.getElem?_eq_some_iff.1 hp).1; omega
     have e0 : (swpL ss i k)[j]? = ss[sw i k j]? := by
       have := set_sw (List.getElem?_eq_getElem hiL) (List.getElem?_eq_getElem hkL) j
       unfold swpL
       simpa [hiL, hkL] using this
     rw [e0] at hp
     obtain ⟨s', c', m1, m2, m3⟩ := h7 _ p hp
     refine ⟨s', c', by rw [set_sw a1 q1]; exact m1, by rw [set_sw a2 q2]; exact m2, VecT.chg m3 c1 (fun e => h5 (e ▸ List.mem_of_getElem? m2))⟩
theorem swR_small {ss : List (List Tm)} {i k : Int} {l : List (List Tm)} (h : swR ss i k = some l) : l.length ≤ 3 ∧ ∀ p ∈ l, p.length ≤ 20 := by
 unfold swR at h
 split at h
 · rename_i hg
   cases h
   simp only [inU, Bool.and_eq_true, decide_eq_true_eq] at hg
   obtain ⟨⟨hgd, hi1, hi2⟩, hk1, hk2⟩ := hg
   simp only [goodSS, Bool.and_eq_true, decide_eq_true_eq] at hgd
   have hall : ∀ (n : Nat) (l : List (List Tm)), sysF n l = true → ∀ p ∈ l, p.length ≤ 20 := by
     intro n l
     induction l with
     | nil => intro _ p hp; simp at hp
     | cons q l ih =>
       intro h p hp
       simp only [sysF, Bool.and_eq_true, goodP, decide_eq_true_eq] at h
       rcases List.mem_cons.1 hp with rfl | hp
       · omega
       · exact ih h.2 p hp
   have h20 := hall _ _ hgd.1
   refine ⟨by rw [swpL_length]; omega, fun p hp => ?_⟩
   obtain ⟨j, hj⟩ := List.mem_iff_getElem?.1 hp
   have hjl := (List.getElem?_eq_some_iff.1 hj).1
   rw [swpL_length] at hjl
   rw [swpL_get (by omega) (by omega) hjl] at hj
   cases hj
   split
   · exact h20 _ (List.getElem_mem _)
   · split
     · exact h20 _ (List.getElem_mem _)
     · exact h20 _ (List.getElem_mem _)
 · cases h
theorem sgn3_neg (n : Int) : sgn3 (-n) = -sgn3 n := by
 unfold sgn3
 rcases Int.lt_trichotomy n 0 with h | h | h
 · rw [if_pos (by omega), if_neg (by omega), if_pos (by omega)]; omega
 · subst h; simp
 · rw [if_neg (by omega), if_pos (by omega), if_pos (by omega)]
theorem ordT_neg (a b : Tm) : ordT b a = -ordT a b := by
 unfold ordT
 have e1 : b.x - a.x = -(a.x - b.x) := by omega
 have e2 : b.y - a.y = -(a.y - b.y) := by omega
 have e3 : b.z - a.z = -(a.z - b.z) := by omega
 rw [e1, e2, e3, sgn3_neg, sgn3_neg, sgn3_neg]
 by_cases h1 : a.x = b.x
 · by_cases h2 : a.y = b.y
   · simp [h1, h2]
   · have h2' : ¬ b.y = a.y := fun h => h2 h.symm
     simp [h1, h2, h2']
 · have h1' : ¬ b.x = a.x := fun h => h1 h.symm
   simp [h1, h1']
def Sorted (l : List Tm) : Prop := ∀ (i : Nat) (h : i + 1 < l.length), ordT (l[i]'(by omega)) l[i + 1] < 0
theorem Sorted.back {l : List Tm} (h : Sorted l) {i : Nat} (hi : i + 1 < l.length) : ¬ ordT l[i + 1] (l[i]'(by omega)) < 0 := by
 have := h i hi
 rw [ordT_neg]
 omega
abbrev cmpF : Value := .func (.func n_impl_compareTerms) #[] #[]
theorem insSort_ok (lim : Nat) (s : Value) (l : List Tm) (a b : Nat) (H : AHeap) (hs : SlT H s l) (hl : Sorted l) (hb : b ≤ l.length) (hn : l.length ≤ 1000) (ha : a ≤ 1000) :
   ACalls Tryz.prog lim n_slices_insertionSortCmpFunc_impl_Term [s, .int .i64 a, .int .i64 b, cmpF] H fun v H' => Ext H H' := by
 refine is_slices_insertionSortCmpFunc_impl_Term.go rfl ?_
 unfold c_slices_insertionSortCmpFunc_impl_Term
 refine s_reg ?_
 simp only [o_pure, o_nil, POp.ev, Opd.ev, env0, gu, gv, setD, List.set, xsj, xel, binV, ne_eq, xnt, if_false, add1 (i := a) (by omega)]
 refine s_block1 ?_
 refine s_loop1 (fun k e' H' => ∃ (i : Nat) (x5 : Value), a < i ∧ i + k = a + b + 1001 ∧ Ext H H' ∧ e' = [s, .int .i64 a, .int .i64 b, cmpF, .int .i64 i, x5]) (b + 1000) ⟨a + 1, _, by omega, by omega, Ext.refl _, rfl⟩ ?_
 rintro k0 e' H' ⟨i, x5, hai, hik, hx, rfl⟩
 refine s_test ?_
 simp only [o_pure, o_nil, POp.ev, Opd.ev, gv, setD, xsj, xel, binV, ne_eq, xnt, if_false]
 refine Test.split (fun hlt => ?_) (fun hlt => ?_)
 · have hlt' : i < b := by simpa using hlt
   obtain ⟨j, rfl⟩ : ∃ j, i = j + 1 := ⟨i - 1, by omega⟩
   have hjl : j + 1 < l.length := by omega
   have hsub : IntKind.i64.wrap (((j + 1 : Nat) : Int) - 1) = (j : Int) := by rw [IntKind.wrap_i64]; omega
   refine s_skip1 ?_
   simp +decide only [pqn]
   refine s_block ?_
   refine s_reg ?_
   simp only [o_pure, o_nil, POp.ev, Opd.ev, gv, setD, List.set, xsj, xel]
   refine s_block1 ?_
   refine s_loop1 (fun k e' H2 => Ext H' H2 ∧ e' = [s, .int .i64 a, .int .i64 b, cmpF, .int .i64 ((j + 1 : Nat) : Int), .int .i64 ((j + 1 : Nat) : Int)]) 0 ⟨Ext.refl _, rfl⟩ ?_
   rintro k e' H2 ⟨hx2, rfl⟩
   have hd : decide (((j + 1 : Nat) : Int) > (a : Int)) = true := decide_eq_true (by omega)
   obtain ⟨b1, o1, h1, a1⟩ := ((hs.ext hx).ext hx2).at hjl
   obtain ⟨b2, o2, h2, a2⟩ := ((hs.ext hx).ext hx2).at (i := j) (by omega)
   have hf : decide (ordT l[j + 1] (l[j]'(by omega)) < 0) = false := decide_eq_false (hl.back hjl)
   refine s_test ?_
   simp only [o_callT, callV_fn, o_pure, o_guard, gk_tt, POp.ev, Opd.ev, gv, setD, List.map, xsj, xel, binV, ne_eq, xnt, if_false, hd, hsub, h1, a1.all, h2, a2.all]
   refine (compareTerms_ok _ _ _ _).mono ?_
   rintro _ H3 ⟨rfl, hx3⟩
   simp only [o_cont, o_pure, o_guard, gk_tt, o_nil, POp.ev, Opd.ev, gv, setD, xsj, xel, pickV, binV, ne_eq, xnt, if_false, cmpT_eq, hf]
   refine Test.false_ (s_exit1 ?_)
   simp +decide only [pqn, pqe, pbn, pbe, p_fin_normal, reduceIte, resV, resL, xsj, xel, xms]
   refine s_reg1 ?_
   simp only [o_pure, o_nil, POp.ev, Opd.ev, gv, setD, List.set, xsj, xel, binV, ne_eq, xnt, if_false, add1 (i := j + 1) (by omega)]
   simp +decide only [pqn]
   exact Round.mk (k0 - 1) (by omega) ⟨j + 1 + 1, _, by omega, by omega, (hx.trans hx2).trans hx3, rfl⟩
 · refine s_exit1 ?_
   simp +decide only [pqe, pbe, p_fin_normal, reduceIte, resV, resL, xsj, xel, xms]
   exact hx
theorem stable_ok (lim : Nat) (s : Value) (l : List Tm) (H : AHeap) (hs : SlT H s l) (hl : Sorted l) (hn : l.length ≤ 20) :
   ACalls Tryz.prog lim n_slices_stableCmpFunc_impl_Term [s, .int .i64 l.length, cmpF] H fun v H' => Ext H H' := by
 refine is_slices_stableCmpFunc_impl_Term.go rfl ?_
 unfold c_slices_stableCmpFunc_impl_Term
 have w40 : IntKind.i64.wrap (20 + 20) = 40 := by decide
 refine s_reg ?_
 simp only [o_pure, o_nil, POp.ev, Opd.ev, env0, gu, setD, List.set, xsj, xel]
 refine s_assoc (s_reg ?_)
 simp only [o_pure, o_nil, POp.ev, Opd.ev, gv, setD, List.set, xsj, xel]
 refine s_block ?_
 refine s_loop1 (fun k e' H' => ∃ (i : Nat) (x6 : Value), Ext H H' ∧ (i = 0 ∧ k = 1 ∨ i = 20 ∧ k = 0 ∧ l.length = 20) ∧ e' = [s, .int .i64 l.length, cmpF, .int .i64 20, .int .i64 i, .int .i64 ((i + 20 : Nat) : Int), x6]) 1 ⟨0, _, Ext.refl _, .inl ⟨rfl, rfl⟩, rfl⟩ ?_
 rintro k e' H' ⟨i, x6, hx, hi, rfl⟩
 refine s_test ?_
 simp only [o_pure, o_nil, POp.ev, Opd.ev, gv, setD, xsj, xel, binV, ne_eq, xnt, if_false]
 refine Test.split (fun hlt => ?_) (fun hlt => ?_)
 · have hlt' : i + 20 ≤ l.length := by simp at hlt; omega
   have hi0 : i = 0 ∧ k = 1 ∧ l.length = 20 := by omega
   obtain ⟨rfl, rfl, h20⟩ := hi0
   refine s_skip1 ?_
   simp +decide only [pqn]
   refine s_block1 ?_
   refine s_reg ?_
   simp only [o_pure, o_callF, POp.ev, Opd.ev, gv, setD, List.map, xsj, xel]
   refine (insSort_ok lim s l 0 20 H' (hs.ext hx) hl (by omega) (by omega) (by omega)).mono ?_
   rintro _ H2 hx2
   simp only [o_cont, o_nil, setD]
   refine s_reg ?_
   simp only [o_pure, o_nil, POp.ev, Opd.ev, gv, setD, List.set, xsj, xel]
   refine s_reg1 ?_
   have w : IntKind.i64.wrap (((0 + 20 : Nat) : Int) + 20) = ((20 + 20 : Nat) : Int) := by decide
   simp only [o_pure, o_nil, POp.ev, Opd.ev, gv, setD, List.set, xsj, xel, binV, ne_eq, xnt, if_false, w]
   simp +decide only [pqn, pbn]
   exact Round.mk 0 (by omega) ⟨20, _, hx.trans hx2, .inr ⟨rfl, rfl, h20⟩, rfl⟩
 · refine s_exit1 ?_
   simp +decide only [pqn, pqe, pbe, reduceIte]
   refine s_reg ?_
   simp only [o_pure, o_callF, POp.ev, Opd.ev, gv, setD, List.map, xsj, xel]
   refine (insSort_ok lim s l i l.length H' (hs.ext hx) hl (Nat.le_refl _) (by omega) (by omega)).mono ?_
   rintro _ H2 hx2
   simp only [o_cont, o_nil, setD]
   refine s_block1 ?_
   refine s_loop1 (fun k e' H3 => H3 = H2 ∧ e' = [s, .int .i64 l.length, cmpF, .int .i64 20, .int .i64 i, .int .i64 ((i + 20 : Nat) : Int), x6]) 0 ⟨rfl, rfl⟩ ?_
   rintro k e' H3 ⟨rfl, rfl⟩
   have hd : decide ((20 : Int) < (l.length : Int)) = false := decide_eq_false (by omega)
   refine s_test ?_
   simp only [o_pure, o_nil, POp.ev, Opd.ev, gv, setD, xsj, xel, binV, ne_eq, xnt, if_false, hd]
   refine Test.false_ (s_exit1 ?_)
   simp +decide only [pqe, pbe, p_fin_normal, reduceIte, resV, resL, xsj, xel, xms]
   exact hx.trans hx2
theorem sort_ok (lim : Nat) (s : Value) (l : List Tm) (H : AHeap) (hs : SlT H s l) (hl : Sorted l) (hn : l.length ≤ 20) :
   ACalls Tryz.prog lim n_slices_SortStableFunc_S_impl_Term_impl_Term [s, cmpF] H fun v H' => Ext H H' := by
 refine is_slices_SortStableFunc_S_impl_Term_impl_Term.go rfl ?_
 unfold c_slices_SortStableFunc_S_impl_Term_impl_Term
 refine s_reg1 ?_
 simp only [o_pure, o_callF, POp.ev, Opd.ev, env0, gu, gv, setD, List.map, xsj, xel, hs.lenV]
 refine (stable_ok lim s l H hs hl hn).mono ?_
 rintro _ H2 hx2
 simp only [o_cont, o_nil, setD]
 simp +decide only [p_fin_normal, resV, resL, xsj, xel, xms]
 exact hx2
theorem collect1_ok (lim : Nat) (t : Tm) (H : AHeap) : ACalls Tryz.prog lim n_impl_collect_1 [tv t] H fun v H' => v = .bool (t.c == 0) ∧ Ext H H' := by
 refine is_impl_collect_1.go rfl ?_
 unfold c_impl_collect_1
 refine s_reg ?_
 simp only [o_pure, o_eff, o_nil, POp.ev, Opd.ev, EOp.ev, env0, gu, gv, setD, List.set, xsj, xel, boxT]
 have hB := BoxT.mk' H t
 generalize H.alloc (tc t) = H1 at hB ⊢
 generalize H.next = p at hB ⊢
 refine s_reg ?_
 simp only [o_pure, o_nil, POp.ev, Opd.ev, gv, setD, List.set, xsj, xel, binV, load1V, fadV, ne_eq, xnt, if_false, Nat.zero_add, hB.c0]
 refine s_ret1 ?_
 simp +decide only [pfr, resV, resOne, gv, xsj, xel]
 exact ⟨trivial, hB.ext⟩
abbrev delF : Value := .func (.func n_impl_collect_1) #[] #[]
theorem indexFunc_ok (lim : Nat) (s : Value) (l : List Tm) (H : AHeap) (hs : SlT H s l) (hn : l.length ≤ 1000000) (hz : ∀ t ∈ l, t.c ≠ 0) :
   ACalls Tryz.prog lim n_slices_IndexFunc_S_impl_Term_impl_Term [s, delF] H fun v H' => v = .int .i64 (-1) ∧ Ext H H' := by
 refine is_slices_IndexFunc_S_impl_Term_impl_Term.go rfl ?_
 unfold c_slices_IndexFunc_S_impl_Term_impl_Term
 refine s_reg ?_
 simp only [o_pure, o_nil, POp.ev, Opd.ev, env0, gu, setD, List.set, xsj, xel]
 refine s_assoc (s_reg ?_)
 simp only [o_pure, o_nil, POp.ev, Opd.ev, gv, setD, List.set, xsj, xel, hs.lenV]
 refine s_block ?_
 refine s_loop1 (fun k e' H' => ∃ (i : Nat) (x : Value), i + k = l.length ∧ Ext H H' ∧ e' = [s, delF, .int .i64 0, x, .int .i64 l.length, .int .i64 i]) l.length ⟨0, _, by omega, Ext.refl _, rfl⟩ ?_
 rintro k e' H' ⟨i, x, hik, hx, rfl⟩
 refine s_test ?_
 simp only [o_pure, o_nil, POp.ev, Opd.ev, gv, setD, xsj, xel, binV, ne_eq, xnt, if_false]
 refine Test.split (fun hlt => ?_) (fun hlt => ?_)
 · have hlt' : i < l.length := by simpa using hlt
   obtain ⟨b1, o1, h1, a1⟩ := (hs.ext hx).at hlt'
   have hc : (l[i].c == 0) = false := by simpa using hz _ (List.getElem_mem hlt')
   refine s_skip1 ?_
   simp +decide only [pqn]
   refine s_block ?_
   refine s_reg ?_
   simp only [o_pure, o_nil, POp.ev, Opd.ev, gv, setD, List.set, xsj, xel]
   refine s_test1 ?_
   simp only [o_callT, callV_fn, o_pure, POp.ev, Opd.ev, gv, setD, List.map, xsj, xel, h1, a1.all]
   refine (collect1_ok _ _ _).mono ?_
   rintro _ H2 ⟨rfl, hx2⟩
   simp only [o_cont, o_nil, gv, setD, hc]
   refine Test.false_ (s_skip1 ?_)
   simp +decide only [pqn, pbn]
   refine s_reg1 ?_
   simp only [o_pure, o_nil, POp.ev, Opd.ev, gv, setD, List.set, xsj, xel, binV, ne_eq, xnt, if_false, add1 (i := i) (by omega)]
   simp +decide only [pqn]
   exact Round.mk (k - 1) (by omega) ⟨i + 1, _, by omega, hx.trans hx2, rfl⟩
 · refine s_exit1 ?_
   simp +decide only [pqn, pqe, pbe, reduceIte]
   refine s_reg ?_
   simp only [o_pure, o_nil, POp.ev, Opd.ev, setD, List.set, xsj, xel]
   refine s_ret1 ?_
   simp +decide only [pfr, resV, resOne, gv, xsj, xel]
   exact ⟨trivial, hx⟩
theorem deleteFunc_ok (lim : Nat) (s : Value) (l : List Tm) (H : AHeap) (hs : SlT H s l) (hn : l.length ≤ 1000000) (hz : ∀ t ∈ l, t.c ≠ 0) :
   ACalls Tryz.prog lim n_slices_DeleteFunc_S_impl_Term_impl_Term [s, delF] H fun v H' => v = s ∧ Ext H H' := by
 refine is_slices_DeleteFunc_S_impl_Term_impl_Term.go rfl ?_
 unfold c_slices_DeleteFunc_S_impl_Term_impl_Term
 refine s_reg ?_
 simp only [o_pure, o_nil, POp.ev, Opd.ev, env0, gu, setD, List.set, xsj, xel]
 refine s_reg ?_
 simp only [o_pure, o_callF, POp.ev, Opd.ev, gv, setD, List.map, xsj, xel]
 refine (indexFunc_ok lim s l H hs hn hz).mono ?_
 rintro _ H2 ⟨rfl, hx2⟩
 have hd : ((-1 : Int) == -1) = true := by decide
 simp only [o_cont, o_pure, o_nil, POp.ev, Opd.ev, gv, setD, List.set, xsj, xel]
 refine s_test ?_
 simp only [o_pure, o_nil, POp.ev, Opd.ev, gv, setD, xsj, xel, binV, ne_eq, xnt, if_false, beq_self_eq_true]
 refine Test.true_ (s_reg ?_)
 simp only [o_pure, o_nil, POp.ev, Opd.ev, gv, setD, List.set, xsj, xel]
 refine s_ret1 ?_
 simp +decide only [pqr, pfr, resV, resOne, gv, xsj, xel]
 exact ⟨trivial, hx2⟩
theorem vecT_nil (H : AHeap) (b : Nat) : VecT H b (.slice none 0 0) [] := Vec.nil _ _ _
theorem appendT {lim : Nat} {H : AHeap} {b : Nat} {v x : Value} {l m : List Tm} (h : VecT H b v l) (hx : SlT H x m) (hl : lim ≤ b) (hn : l.length + m.length ≤ 1000000) :
   ∃ v' H' b', appendH lim H 4 32 v x = some (v', H') ∧ VecT H' b' v' (l ++ m) ∧ (b' = b ∨ H.next ≤ b') ∧ (l ++ m ≠ [] → b' < H'.next) ∧ Chg b H H' := by
 obtain ⟨v', H', b', h1, h2, h3, h4, h5⟩ := Vec.append h (lim := lim) hl hx (by decide) (bytes := 32) (by omega)
 have h2' : VecT H' b' v' (l ++ m) := by
   unfold VecT
   rw [List.length_append, tcs_append]
   exact h2
 refine ⟨v', H', b', h1, h2', h3.imp id fun h => by omega, fun hne => (Vec.blk h2' (fun e => hne (List.length_eq_zero_iff.1 e))).elim fun _ h => h.2, h4⟩
theorem pushT {lim : Nat} {H : AHeap} {b : Nat} {v : Value} {l : List Tm} (h : VecT H b v l) (t : Tm) (hl : lim ≤ b) (hn : l.length ≤ 100000) :
   ∃ v' H' b', appendH lim (H.alloc (tc t)) 4 32 v (.slice (some ⟨H.next, 0, some 0⟩) 1 1) = some (v', H') ∧ VecT H' b' v' (l ++ [t]) ∧ (b' = b ∨ H.next ≤ b') ∧ b' < H'.next ∧ Chg b H H' := by
 obtain ⟨v', H', b', h1, h2, h3, h4, h5⟩ := appendT (VecT.ext h (Ext.alloc H (tc t))) (sl_one H t) hl (by simp; omega)
 exact ⟨v', H', b', h1, h2, h3.imp id fun h => Nat.le_trans (Nat.le_succ _) h, h4 (by simp), (Chg.of_ext (Ext.alloc _ _)).trans h5⟩
theorem collect_ok (lim : Nat) (s : Value) (l : List Tm) (H : AHeap) (hl : lim ≤ H.next) (hs : SlT H s l) (hso : Sorted l) (hz : ∀ t ∈ l, t.c ≠ 0) (hn : l.length ≤ 20) :
   ACalls Tryz.prog lim n_impl_collect [s] H fun v H' => ∃ b, H.next ≤ b ∧ b ≤ H'.next ∧ VecT H' b v l ∧ Ext H H' := by
 refine is_impl_collect.go rfl ?_
 unfold c_impl_collect
 refine s_reg ?_
 simp only [o_pure, o_nil, POp.ev, Opd.ev, env0, gu, setD, List.set, xsj, xel]
 refine s_reg ?_
 simp only [o_pure, o_callF, POp.ev, Opd.ev, gv, setD, List.map, xsj, xel]
 refine (clone_ok lim _ _ _ hl hs (by omega)).mono ?_
 rintro s1 H1 ⟨b1, hb1, hb2, hv1, hx1⟩
 simp only [o_cont, o_pure, o_nil, POp.ev, Opd.ev, gv, setD, List.set, xsj, xel]
 refine s_reg ?_
 simp only [o_pure, o_callF, POp.ev, Opd.ev, gv, setD, List.map, xsj, xel]
 refine (sort_ok lim _ _ _ (Vec.sl hv1) hso hn).mono ?_
 rintro _ H2 hx2
 simp only [o_cont, o_nil, setD]
 have hs2 : SlT H2 s1 l := (show SlT H1 s1 l from Vec.sl hv1).ext hx2
 have hx12 := hx1.trans hx2
 have hn12 := hx12.next
 refine s_reg ?_
 simp only [o_pure, o_nil, POp.ev, Opd.ev, setD, List.set, xsj, xel]
 refine s_assoc (s_reg ?_)
 simp only [o_pure, o_nil, POp.ev, Opd.ev, gv, setD, List.set, xsj, xel, hs2.lenV]
 refine s_block ?_
 refine s_loop1 (fun k e' H' => ∃ (i b : Nat) (v x4 x5 : Value), i + k = l.length ∧ VecT H' b v (l.take i) ∧ H2.next ≤ b ∧ b ≤ H'.next ∧ Ext H2 H' ∧ e' = [s, .slice none 0 0, s1, v, x4, x5, s1, .int .i64 l.length, .int .i64 i]) l.length ⟨0, H2.next, _, _, _, by omega, by rw [List.take_zero]; exact vecT_nil _ _, Nat.le_refl _, Nat.le_refl _, Ext.refl _, rfl⟩ ?_
 rintro k e' H' ⟨i, b, v, x4, x5, hik, hv, hb, hbH, hx, rfl⟩
 have hnx := hx.next
 refine s_test ?_
 simp only [o_pure, o_nil, POp.ev, Opd.ev, gv, setD, xsj, xel, binV, ne_eq, xnt, if_false]
 refine Test.split (fun hlt => ?_) (fun hlt => ?_)
 · have hlt' : i < l.length := by simpa using hlt
   obtain ⟨b2, o2, h2, a2⟩ := (hs2.ext hx).at hlt'
   have hil : (l.take i).length = i := by simp; omega
   refine s_skip1 ?_
   simp +decide only [pqn]
   refine s_block ?_
   refine s_reg ?_
   simp only [o_pure, o_eff, o_nil, POp.ev, Opd.ev, EOp.ev, gv, setD, List.set, xsj, xel, h2, a2.all, store4_new (lim := lim) (H := H') (by omega)]
   have hB := BoxT.mk' H' l[i]
   generalize H'.alloc (tc l[i]) = H3 at hB ⊢
   generalize H'.next = q at hB hnx hbH ⊢
   have hx3 := hx.trans hB.ext
   have hn3 := hB.lt
   have hq := hB.ge
   replace hv := VecT.ext hv hB.ext
   refine s_reg ?_
   simp only [o_pure, o_nil, POp.ev, Opd.ev, gv, setD, List.set, xsj, xel, Vec.lenV hv]
   refine s_test1_I false (Ext H3) ?_ (fun H4 hx4 hg => by cases hg) (fun H4 hx4 _ => ?_)
   · rw [hil]
     cases i with
     | zero =>
       have d0 : decide (((0 : Nat) : Int) > 0) = false := by decide
       simp only [o_pure, o_guard, gk_ft, o_nil, POp.ev, Opd.ev, gv, setD, xsj, xel, pickV, binV, ne_eq, xnt, if_false, d0]
       exact ⟨trivial, trivial, Ext.refl _⟩
     | succ i =>
       have d0 : decide (((i + 1 : Nat) : Int) > 0) = true := decide_eq_true (by omega)
       have w1 : IntKind.i64.wrap (((i + 1 : Nat) : Int) - 1) = (i : Int) := by rw [IntKind.wrap_i64]; omega
       obtain ⟨h5, a5⟩ := VecT.at hv (i := i) (by omega)
       have e5 : (l.take (i + 1))[i]'(by omega) = l[i]'(by omega) := by simp
       rw [e5] at a5
       have hne : (ordT (l[i]'(by omega)) l[i + 1] == 0) = false := by
         have := hso i hlt'
         simp; omega
       simp only [o_pure, o_callF, o_guard, gk_tt, POp.ev, Opd.ev, gv, setD, List.map, xsj, xel, binV, ne_eq, xnt, if_false, d0, w1, h5, a5.all, hB.all]
       refine (compareTerms_ok _ _ _ _).mono ?_
       rintro _ H4 ⟨rfl, hx4⟩
       simp only [o_cont, o_pure, o_guard, gk_tt, o_nil, POp.ev, Opd.ev, gv, setD, xsj, xel, pickV, binV, ne_eq, xnt, if_false, cmpT_eq, hne]
       exact ⟨trivial, trivial, hx4⟩
   · have hB4 := hB.mono hx4
     replace hv := VecT.ext hv hx4
     have hn4 := hx4.next
     obtain ⟨v', H5, b', g1, g2, g3, g4, g5⟩ := pushT (lim := lim) hv l[i] (by omega) (by omega)
     refine s_reg1 ?_
     simp only [o_pure, o_eff, o_nil, POp.ev, Opd.ev, EOp.ev, gv, setD, List.set, List.map, xsj, xel, hB4.all, bsliceT, g1]
     simp +decide only [pqn, pbn]
     refine s_reg1 ?_
     simp only [o_pure, o_nil, POp.ev, Opd.ev, gv, setD, List.set, xsj, xel, binV, ne_eq, xnt, if_false, add1 (i := i) (by omega)]
     simp +decide only [pqn]
     refine Round.mk (k - 1) (by omega) ⟨i + 1, b', v', _, _, by omega, ?_, by rcases g3 with rfl | g3 <;> omega, by omega, ?_, rfl⟩
     · rw [List.take_add_one, List.getElem?_eq_getElem hlt']
       exact g2
     · exact Chg.ext (hx3.trans hx4) g5 hb
 · have hge : i = l.length := by simp at hlt; omega
   subst hge
   rw [List.take_length] at hv
   refine s_exit1 ?_
   simp +decide only [pqn, pqe, pbe, reduceIte]
   refine s_reg ?_
   simp only [o_pure, o_callF, POp.ev, Opd.ev, gv, setD, List.map, xsj, xel]
   refine (deleteFunc_ok lim v l _ (Vec.sl hv) (by omega) hz).mono ?_
   rintro _ H3 ⟨rfl, hx3⟩
   have hn3 := hx3.next
   simp only [o_cont, o_pure, o_nil, POp.ev, Opd.ev, gv, setD, List.set, xsj, xel]
   refine s_ret1 ?_
   simp +decide only [pfr, resV, resOne, gv, xsj, xel]
   exact ⟨b, by omega, by omega, VecT.ext hv hx3, (hx12.trans hx).trans hx3⟩
def tr (n u : Int) (t : Tm) : Tm := { t with c := t.c * n ^ (pw t u).toNat }
theorem tr_small {c n : Int} {j : Nat} (hc : -1000 ≤ c ∧ c ≤ 1000) (hn : n = 2 ∨ n = -1) (hj : j ≤ 4) : -16000 ≤ c * n ^ j ∧ c * n ^ j ≤ 16000 := by
 rcases hn with rfl | rfl
 · match j, hj with
   | 0, _ => simp; omega
   | 1, _ => simp; omega
   | 2, _ => simp; omega
   | 3, _ => simp; omega
   | 4, _ => simp; omega
 · match j, hj with
   | 0, _ => simp; omega
   | 1, _ => simp; omega
   | 2, _ => simp; omega
   | 3, _ => simp; omega
   | 4, _ => simp; omega
theorem pow_ne {n : Int} (h : n ≠ 0) : ∀ j : Nat, n ^ j ≠ 0
 | 0 => by simp
 | j + 1 => by rw [Int.pow_succ]; exact Int.mul_ne_zero (pow_ne h j) h
theorem tr_ne {c n : Int} {j : Nat} (hc : c ≠ 0) (hn : n = 2 ∨ n = -1) : c * n ^ j ≠ 0 := Int.mul_ne_zero hc (pow_ne (by omega) j)
theorem pw_b {t : Tm} (h : okTm t = true) (u : Int) : 0 ≤ pw t u ∧ pw t u ≤ 4 := by
 have := okTm_b h
 unfold pw
 split
 · omega
 · split <;> omega
theorem BoxT.put0 {lim : Nat} {Hb H : AHeap} {q : Nat} {t : Tm} (h : BoxT Hb H q t) (hl : lim ≤ q) (c : Int) : ∃ cs, storeH lim H 1 (.pointer (some ⟨q, 0, none⟩)) (.int .i64 c) = some (undef, H.put q cs) ∧ BoxT Hb (H.put q cs) q { t with c := c } :=
 ⟨_, store_int .i64 c hl h.blk (by simp [tc]), Chg.ext h.ext (Chg.put _ _ _) h.ge, h.ge, h.lt, put_same _ _ _⟩
def timesR (n u : Int) (ss : List (List Tm)) : Option (List (List Tm)) := if ss.all (fun p => goodP (p.map (tr n u))) then some (ss.map (·.map (tr n u))) else none
theorem tfTimes_ok (lim : Nat) (s : Value) (ss : List (List Tm)) (u n : Int) (H : AHeap) (hl : lim ≤ H.next) (hs : SlSS H s ss) (hn : ss.length ≤ 1000000) (hn2 : ∀ p ∈ ss, p.length ≤ 20) (hok : ∀ p ∈ ss, ∀ t ∈ p, okTm t = true) (hnn : n = 2 ∨ n = -1) :
   ACalls Tryz.prog lim n_spec_tfTimes [s, .int .i64 u, .int .i64 n] H fun v H' => ResSS H' H.next v (timesR n u ss) ∧ Ext H H' := by
 refine is_spec_tfTimes.go rfl ?_
 unfold c_spec_tfTimes
 refine s_reg ?_
 simp only [o_pure, o_nil, POp.ev, Opd.ev, env0, gu, setD, List.set, xsj, xel]
 refine s_reg ?_
 simp only [o_pure, o_nil, POp.ev, Opd.ev, setD, List.set, xsj, xel]
 refine s_assoc (s_reg ?_)
 simp only [o_pure, o_nil, POp.ev, Opd.ev, gv, setD, List.set, xsj, xel, hs.lenV]
 refine s_block ?_
 refine s_loop1 (fun j e' H' => ∃ (i b : Nat) (vs : List Value) (bs : List Nat) (v x6 x7 x8 x9 x13 x14 x15 : Value), i + j = ss.length ∧ ((ss.take i).all fun p => goodP (p.map (tr n u))) = true ∧ GrowX H' H.next b vs bs v ((ss.take i).map (·.map (tr n u))) ∧ Ext H H' ∧
   e' = [s, .int .i64 u, .int .i64 n, .slice none 0 0, .bool false, v, x6, x7, x8, x9, s, .int .i64 ss.length, .int .i64 i, x13, x14, x15]) ss.length ⟨0, H.next, [], [], _, _, _, _, _, _, _, _, by omega, by simp, GrowX.nil' _, Ext.refl _, rfl⟩ ?_
 rintro j e' H' ⟨i, b, vs, bs, v, x6, x7, x8, x9, x13, x14, x15, hij, hall, hG, hx, rfl⟩
 have hnx := hx.next
 refine s_test ?_
 simp only [o_pure, o_nil, POp.ev, Opd.ev, gv, setD, xsj, xel, binV, ne_eq, xnt, if_false]
 refine Test.split (fun hlt => ?_) (fun hlt => ?_)
 · have hlt' : i < ss.length := by simpa using hlt
   obtain ⟨b1, o1, s1, h1, h2, h3⟩ := (hs.ext hx).at hlt'
   have hpl := hn2 _ (List.getElem_mem hlt')
   have hpok := hok _ (List.getElem_mem hlt')
   refine s_skip1 ?_
   simp +decide only [pqn]
   refine s_block ?_
   refine s_reg ?_
   simp only [o_pure, o_nil, POp.ev, Opd.ev, gv, setD, List.set, xsj, xel, load1V, h1, h2]
   refine s_reg ?_
   simp only [o_pure, o_nil, POp.ev, Opd.ev, setD, List.set, xsj, xel]
   refine s_cut1 (fun e'' H'' => ∃ (c : Nat) (w x8 x9 x13 x14 x15 : Value), VecT H'' c w (ss[i].map (tr n u)) ∧ H'.next ≤ c ∧ c ≤ H''.next ∧ Ext H' H'' ∧ e'' = [s, .int .i64 u, .int .i64 n, .slice none 0 0, .bool false, v, s1, w, x8, x9, s, .int .i64 ss.length, .int .i64 i, x13, x14, x15]) ?_ ?_
   · refine s_reg ?_
     simp only [o_pure, o_nil, POp.ev, Opd.ev, gv, setD, List.set, xsj, xel, h3.lenV]
     refine s_block1 ?_
     refine s_loop1 (fun j2 e' H2 => ∃ (k c : Nat) (w x8 x9 : Value), k + j2 = ss[i].length ∧ VecT H2 c w ((ss[i].take k).map (tr n u)) ∧ H'.next ≤ c ∧ c ≤ H2.next ∧ Ext H' H2 ∧ e' = [s, .int .i64 u, .int .i64 n, .slice none 0 0, .bool false, v, s1, w, x8, x9, s, .int .i64 ss.length, .int .i64 i, s1, .int .i64 ss[i].length, .int .i64 k]) ss[i].length ⟨0, H'.next, _, _, _, by omega, vecT_nil _ _, Nat.le_refl _, Nat.le_refl _, Ext.refl _, rfl⟩ ?_
     rintro j2 e' H2 ⟨k, c, w, x8, x9, hkj, hv, hc1, hc2, hx2, rfl⟩
     have hnx2 := hx2.next
     refine s_test ?_
     simp only [o_pure, o_nil, POp.ev, Opd.ev, gv, setD, xsj, xel, binV, ne_eq, xnt, if_false]
     refine Test.split (fun hlt2 => ?_) (fun hlt2 => ?_)
     · have hk : k < ss[i].length := by simpa using hlt2
       obtain ⟨b2, o2, k1, a2⟩ := (h3.ext hx2).at hk
       have hto := hpok _ (List.getElem_mem hk)
       generalize hte : ss[i][k] = t at a2 hto
       have hpb := pw_b hto u
       have htb := okTm_b hto
       obtain ⟨E, hE⟩ : ∃ E : Nat, pw t u = (E : Int) := ⟨(pw t u).toNat, by omega⟩
       refine s_skip1 ?_
       simp +decide only [pqn]
       refine s_block ?_
       refine s_reg ?_
       simp only [o_pure, o_eff, o_nil, POp.ev, Opd.ev, EOp.ev, gv, setD, List.set, xsj, xel, k1, a2.all, store4_new (lim := lim) (H := H2) (by omega)]
       have hB := BoxT.mk' H2 t
       generalize H2.alloc (tc t) = H3 at hB ⊢
       generalize hqe : H2.next = q at hB ⊢
       refine s_reg ?_
       simp only [o_pure, o_callF, POp.ev, Opd.ev, gv, setD, List.map, xsj, xel, hB.all]
       refine (poPower_ok _ _ _ _).mono ?_
       rintro _ H4 ⟨rfl, hx4⟩
       replace hB := hB.mono hx4
       simp only [o_cont, o_pure, o_nil, POp.ev, Opd.ev, gv, setD, List.set, xsj, xel, hE]
       refine s_cut1 (fun e'' H'' => BoxT H2 H'' q (tr n u t) ∧ ∃ x9 : Value, e'' = [s, .int .i64 u, .int .i64 n, .slice none 0 0, .bool false, v, s1, w, .pointer (some ⟨q, 0, none⟩), x9, s, .int .i64 ss.length, .int .i64 i, s1, .int .i64 ss[i].length, .int .i64 k]) ?_ ?_
       · refine s_block1 ?_
         refine s_loop1 (fun j3 e' H5 => ∃ m : Nat, m + j3 = E ∧ BoxT H2 H5 q { t with c := t.c * n ^ m } ∧ e' = [s, .int .i64 u, .int .i64 n, .slice none 0 0, .bool false, v, s1, w, .pointer (some ⟨q, 0, none⟩), .int .i64 ((E - m : Nat) : Int), s, .int .i64 ss.length, .int .i64 i, s1, .int .i64 ss[i].length, .int .i64 k]) E ⟨0, by omega, by simpa using hB, by simp⟩ ?_
         rintro j3 e' H5 ⟨m, hm, hB5, rfl⟩
         refine s_test ?_
         simp only [o_pure, o_nil, POp.ev, Opd.ev, gv, setD, xsj, xel, binV, ne_eq, xnt, if_false]
         refine Test.split (fun hg => ?_) (fun hg => ?_)
         · have hmE : m < E := by simp at hg; omega
           have hmul : IntKind.i64.wrap (t.c * n ^ m * n) = t.c * n ^ (m + 1) := by
             have e : t.c * n ^ m * n = t.c * n ^ (m + 1) := by rw [Int.pow_succ, Int.mul_assoc]
             rw [e]
             have := tr_small (c := t.c) (j := m + 1) (by omega) hnn (by omega)
             rw [IntKind.wrap_i64]; omega
           have hsub : IntKind.i64.wrap (((E - m : Nat) : Int) - 1) = ((E - (m + 1) : Nat) : Int) := by rw [IntKind.wrap_i64]; omega
           obtain ⟨cs, g1, g2⟩ := hB5.put0 (lim := lim) (by omega) (t.c * n ^ (m + 1))
           refine s_skip1 ?_
           simp +decide only [pqn]
           refine s_block ?_
           refine s_reg1 ?_
           simp only [o_pure, o_eff, o_nil, POp.ev, Opd.ev, EOp.ev, gv, setD, xsj, xel, binV, load1V, fadV, ne_eq, xnt, if_false, Nat.zero_add, hB5.c0, hmul, g1]
           simp +decide only [pqn, pbn]
           refine s_reg1 ?_
           simp only [o_pure, o_nil, POp.ev, Opd.ev, gv, setD, List.set, xsj, xel, binV, ne_eq, xnt, if_false, hsub]
           simp +decide only [pqn]
           exact Round.mk (j3 - 1) (by omega) ⟨m + 1, by omega, g2, rfl⟩
         · have hmE : m = E := by simp at hg; omega
           subst hmE
           refine s_exit1 ?_
           simp +decide only [pqn, pqe, pbe, reduceIte]
           refine ⟨?_, _, rfl⟩
           unfold tr
           rw [hE, Int.toNat_natCast]
           exact hB5
       rintro e'' H6 ⟨hB6, x9, rfl⟩
       obtain ⟨w', H7, c', g1, g2, g3, g4, g5⟩ := pushT (lim := lim) (VecT.ext hv hB6.ext) (tr n u t) (by omega) (by simp; omega)
       have hn6 := hB6.ext.next
       refine s_reg1 ?_
       simp only [o_pure, o_eff, o_nil, POp.ev, Opd.ev, EOp.ev, gv, setD, List.set, List.map, xsj, xel, hB6.all, bsliceT, g1]
       simp +decide only [pqn, pbn]
       refine s_reg1 ?_
       simp only [o_pure, o_nil, POp.ev, Opd.ev, gv, setD, List.set, xsj, xel, binV, ne_eq, xnt, if_false, add1 (i := k) (by omega)]
       simp +decide only [pqn]
       refine Round.mk (j2 - 1) (by omega) ⟨k + 1, c', w', _, _, by omega, ?_, by rcases g3 with rfl | g3 <;> omega, by omega, Chg.ext (hx2.trans hB6.ext) g5 hc1, rfl⟩
       rw [List.take_add_one, List.getElem?_eq_getElem hk, hte, List.map_append]
       exact g2
     · have hge : k = ss[i].length := by simp at hlt2; omega
       refine s_exit1 ?_
       simp +decide only [pqn, pqe, pbe, reduceIte]
       rw [hge, List.take_length] at hv
       exact ⟨c, w, _, _, _, _, _, hv, hc1, hc2, hx2, rfl⟩
   rintro e'' H2 ⟨c, w, y8, y9, y13, y14, y15, hv, hc1, hc2, hx2, rfl⟩
   have hnx2 := hx2.next
   refine s_test ?_
   simp only [o_pure, o_callF, POp.ev, Opd.ev, gv, setD, List.map, xsj, xel]
   refine (poGood_ok lim _ _ _ (by omega) (Vec.sl hv) (by simp; omega)).mono ?_
   rintro _ H3 ⟨rfl, hx3⟩
   simp only [o_cont, o_pure, o_nil, POp.ev, Opd.ev, gv, setD, xsj, xel, unV]
   refine Test.split (fun hg => ?_) (fun hg => ?_)
   · simp only [Bool.not_eq_true'] at hg
     refine s_reg ?_
     simp only [o_pure, o_nil, POp.ev, Opd.ev, setD, List.set, xsj, xel]
     refine s_ret1 ?_
     simp +decide only [pqr, pbr, pfr, resV, resOne, resL, gv, xsj, xel, Option.bind_some, xms]
     have hno : timesR n u ss = none := by
       unfold timesR
       rw [if_neg]
       intro hc
       have := List.all_eq_true.1 hc _ (List.getElem_mem hlt')
       rw [hg] at this
       cases this
     refine ⟨⟨.slice none 0 0, ?_, ?_⟩, (hx.trans hx2).trans hx3⟩
     · rw [hno]; rfl
     · rw [hno]; exact .inl ⟨rfl, rfl⟩
   · simp only [Bool.not_eq_false'] at hg
     have hv3 := VecT.ext hv hx3
     have hcv : cellsV w = some [w] := Vec.cellsV hv3
     have hnx3 := hx3.next
     obtain ⟨v', H4, b', g1, g2, g3⟩ := hG.push (lim := lim) (by omega) hx (Nat.le_refl _) (by omega) (hx2.trans hx3) hc1 (by omega) hv3 (by rw [List.length_map, List.length_take]; omega)
     refine s_skip1 ?_
     simp +decide only [pqn]
     refine s_reg1 ?_
     simp only [o_pure, o_eff, o_nil, POp.ev, Opd.ev, EOp.ev, gv, setD, List.set, List.map, xsj, xel, bsliceV _ _ hcv, g1]
     simp +decide only [pqn, pbn]
     refine s_reg1 ?_
     simp only [o_pure, o_nil, POp.ev, Opd.ev, gv, setD, List.set, xsj, xel, binV, ne_eq, xnt, if_false, add1 (i := i) (by omega)]
     simp +decide only [pqn]
     refine Round.mk (j - 1) (by omega) ⟨i + 1, b', vs ++ [w], bs ++ [c], v', _, _, _, _, _, _, _, by omega, ?_, ?_, g3, rfl⟩
     · rw [List.take_add_one, List.getElem?_eq_getElem hlt', List.all_append, hall]
       simp [hg]
     · rw [List.take_add_one, List.getElem?_eq_getElem hlt', List.map_append]
       exact g2
 · have hge : i = ss.length := by simp at hlt; omega
   subst hge
   refine s_exit1 ?_
   simp +decide only [pqn, pqe, pbe, reduceIte]
   refine s_reg ?_
   simp only [o_pure, o_nil, POp.ev, Opd.ev, gv, setD, List.set, xsj, xel]
   refine s_ret1 ?_
   simp +decide only [pfr, resV, resOne, resL, gv, xsj, xel, Option.bind_some, xms]
   rw [List.take_length] at hG hall
   have hR : timesR n u ss = some (ss.map (·.map (tr n u))) := by unfold timesR; rw [if_pos hall]
   rw [hR]
   exact ⟨⟨v, rfl, hG.own⟩, hx⟩
def sysR (f : Tm → Tm) (ss : List (List Tm)) : Option (List (List Tm)) := if goodSS (ss.map (·.map f)) then some (ss.map (·.map f)) else none
theorem systemResult_ok (lim : Nat) (s cp : Value) (g : FuncId) (f : Tm → Tm) (ss : List (List Tm)) (H : AHeap) (hl : lim ≤ H.next) (hs : SlSS H s ss) (hn : ss.length ≤ 1000000) (hn2 : ∀ p ∈ ss, p.length ≤ 20) (hok : ∀ p ∈ ss, ∀ t ∈ p, okTm t = true)
   (hf : ∀ p ∈ ss, Sorted (p.map f) ∧ ∀ t ∈ p.map f, t.c ≠ 0)
   (hcl : ∀ (H' : AHeap) (t : Tm), Ext H H' → okTm t = true → ACalls Tryz.prog lim g [tv t, cp] H' fun v H'' => SlT H'' v [f t] ∧ Ext H' H'') :
   ACalls Tryz.prog lim n_impl_systemResult [s, .func (.func g) #[] #[cp]] H fun v H' => ResSS H' H.next v (sysR f ss) ∧ Ext H H' := by
 refine is_impl_systemResult.go rfl ?_
 unfold c_impl_systemResult
 refine s_reg ?_
 simp only [o_pure, o_nil, POp.ev, Opd.ev, env0, gu, setD, List.set, xsj, xel]
 refine s_reg ?_
 simp only [o_pure, o_nil, POp.ev, Opd.ev, setD, List.set, xsj, xel]
 refine s_assoc (s_reg ?_)
 simp only [o_pure, o_nil, POp.ev, Opd.ev, gv, setD, List.set, xsj, xel, hs.lenV]
 refine s_block ?_
 refine s_loop1 (fun j e' H' => ∃ (i b : Nat) (vs : List Value) (bs : List Nat) (v x5 x6 x7 x11 x12 x13 : Value), i + j = ss.length ∧ GrowX H' H.next b vs bs v ((ss.take i).map (·.map f)) ∧ Ext H H' ∧
   e' = [s, .func (.func g) #[] #[cp], .slice none 0 0, .bool false, v, x5, x6, x7, s, .int .i64 ss.length, .int .i64 i, x11, x12, x13]) ss.length ⟨0, H.next, [], [], _, _, _, _, _, _, _, by omega, GrowX.nil' _, Ext.refl _, rfl⟩ ?_
 rintro j e' H' ⟨i, b, vs, bs, v, x5, x6, x7, x11, x12, x13, hij, hG, hx, rfl⟩
 have hnx := hx.next
 refine s_test ?_
 simp only [o_pure, o_nil, POp.ev, Opd.ev, gv, setD, xsj, xel, binV, ne_eq, xnt, if_false]
 refine Test.split (fun hlt => ?_) (fun hlt => ?_)
 · have hlt' : i < ss.length := by simpa using hlt
   obtain ⟨b1, o1, s1, h1, h2, h3⟩ := (hs.ext hx).at hlt'
   have hpl := hn2 _ (List.getElem_mem hlt')
   have hpok := hok _ (List.getElem_mem hlt')
   obtain ⟨hso, hnz⟩ := hf _ (List.getElem_mem hlt')
   refine s_skip1 ?_
   simp +decide only [pqn]
   refine s_block ?_
   refine s_reg ?_
   simp only [o_pure, o_nil, POp.ev, Opd.ev, gv, setD, List.set, xsj, xel, load1V, h1, h2]
   refine s_reg ?_
   simp only [o_pure, o_nil, POp.ev, Opd.ev, setD, List.set, xsj, xel]
   refine s_cut1 (fun e'' H'' => ∃ (c : Nat) (w x7 x11 x12 x13 : Value), VecT H'' c w (ss[i].map f) ∧ H'.next ≤ c ∧ c ≤ H''.next ∧ Ext H' H'' ∧ e'' = [s, .func (.func g) #[] #[cp], .slice none 0 0, .bool false, v, s1, w, x7, s, .int .i64 ss.length, .int .i64 i, x11, x12, x13]) ?_ ?_
   · refine s_reg ?_
     simp only [o_pure, o_nil, POp.ev, Opd.ev, gv, setD, List.set, xsj, xel, h3.lenV]
     refine s_block1 ?_
     refine s_loop1 (fun j2 e' H2 => ∃ (k c : Nat) (w x7 : Value), k + j2 = ss[i].length ∧ VecT H2 c w ((ss[i].take k).map f) ∧ H'.next ≤ c ∧ c ≤ H2.next ∧ Ext H' H2 ∧ e' = [s, .func (.func g) #[] #[cp], .slice none 0 0, .bool false, v, s1, w, x7, s, .int .i64 ss.length, .int .i64 i, s1, .int .i64 ss[i].length, .int .i64 k]) ss[i].length ⟨0, H'.next, _, _, by omega, vecT_nil _ _, Nat.le_refl _, Nat.le_refl _, Ext.refl _, rfl⟩ ?_
     rintro j2 e' H2 ⟨k, c, w, x7, hkj, hv, hc1, hc2, hx2, rfl⟩
     have hnx2 := hx2.next
     refine s_test ?_
     simp only [o_pure, o_nil, POp.ev, Opd.ev, gv, setD, xsj, xel, binV, ne_eq, xnt, if_false]
     refine Test.split (fun hlt2 => ?_) (fun hlt2 => ?_)
     · have hk : k < ss[i].length := by simpa using hlt2
       obtain ⟨b2, o2, k1, a2⟩ := (h3.ext hx2).at hk
       have hto := hpok _ (List.getElem_mem hk)
       generalize hte : ss[i][k] = t at a2 hto
       refine s_skip1 ?_
       simp +decide only [pqn]
       refine s_block ?_
       refine s_reg ?_
       simp only [o_pure, o_eff, o_nil, POp.ev, Opd.ev, EOp.ev, gv, setD, List.set, xsj, xel, k1, a2.all, store4_new (lim := lim) (H := H2) (by omega)]
       have hB := BoxT.mk' H2 t
       generalize H2.alloc (tc t) = H3 at hB ⊢
       generalize hqe : H2.next = q at hB ⊢
       refine s_reg1 ?_
       simp only [o_callT, o_pure, POp.ev, Opd.ev, gv, setD, List.map, xsj, xel, hB.all, callV_clo, List.cons_append, List.nil_append]
       refine (hcl H3 t ((hx.trans hx2).trans hB.ext) hto).mono ?_
       rintro u H4 ⟨hu, hx4⟩
       have hxx := hB.ext.trans hx4
       have hn4 := hxx.next
       obtain ⟨w', H5, c', g1, g2, g3, g4, g5⟩ := appendT (lim := lim) (VecT.ext hv hxx) hu (by omega) (by simp; omega)
       have hc5 := g5.next
       simp only [o_cont, o_pure, o_eff, o_nil, POp.ev, Opd.ev, EOp.ev, gv, setD, List.set, xsj, xel, g1]
       simp +decide only [pqn, pbn]
       refine s_reg1 ?_
       simp only [o_pure, o_nil, POp.ev, Opd.ev, gv, setD, List.set, xsj, xel, binV, ne_eq, xnt, if_false, add1 (i := k) (by omega)]
       simp +decide only [pqn]
       have hlt5 := g4 (by simp)
       refine Round.mk (j2 - 1) (by omega) ⟨k + 1, c', w', _, by omega, ?_, by rcases g3 with rfl | g3 <;> omega, by omega, Chg.ext (hx2.trans hxx) g5 hc1, rfl⟩
       rw [List.take_add_one, List.getElem?_eq_getElem hk, hte, List.map_append]
       exact g2
     · have hge : k = ss[i].length := by simp at hlt2; omega
       refine s_exit1 ?_
       simp +decide only [pqn, pqe, pbe, reduceIte]
       rw [hge, List.take_length] at hv
       exact ⟨c, w, _, _, _, _, hv, hc1, hc2, hx2, rfl⟩
   rintro e'' H2 ⟨c, w, y7, y11, y12, y13, hv, hc1, hc2, hx2, rfl⟩
   have hnx2 := hx2.next
   refine s_reg1 ?_
   simp only [o_pure, o_callF, POp.ev, Opd.ev, gv, setD, List.map, xsj, xel]
   refine (collect_ok lim _ _ _ (by omega) (Vec.sl hv) hso hnz (by simp; omega)).mono ?_
   rintro w3 H3 ⟨c3, hc31, hc32, hv3, hx3⟩
   have hcv : cellsV w3 = some [w3] := Vec.cellsV hv3
   have hnx3 := hx3.next
   obtain ⟨v', H4, b', g1, g2, g3⟩ := hG.push (lim := lim) (by omega) hx (Nat.le_refl _) (by omega) (hx2.trans hx3) (by omega) hc32 hv3 (by rw [List.length_map, List.length_take]; omega)
   simp only [o_cont, o_pure, o_eff, o_nil, POp.ev, Opd.ev, EOp.ev, gv, setD, List.set, List.map, xsj, xel, bsliceV _ _ hcv, g1]
   simp +decide only [pqn, pbn]
   refine s_reg1 ?_
   simp only [o_pure, o_nil, POp.ev, Opd.ev, gv, setD, List.set, xsj, xel, binV, ne_eq, xnt, if_false, add1 (i := i) (by omega)]
   simp +decide only [pqn]
   refine Round.mk (j - 1) (by omega) ⟨i + 1, b', vs ++ [w3], bs ++ [c3], v', _, _, _, _, _, _, by omega, ?_, g3, rfl⟩
   rw [List.take_add_one, List.getElem?_eq_getElem hlt', List.map_append]
   exact g2
 · have hge : i = ss.length := by simp at hlt; omega
   subst hge
   rw [List.take_length] at hG
   have hO := hG.own
   refine s_exit1 ?_
   simp +decide only [pqn, pqe, pbe, reduceIte]
   refine s_test ?_
   simp only [o_pure, o_callF, POp.ev, Opd.ev, gv, setD, List.map, xsj, xel]
   refine (isSystem_ok lim _ _ _ (by omega) hO.slss (by simpa using hn) (by intro p hp; obtain ⟨q, hq, rfl⟩ := List.mem_map.1 hp; have := hn2 q hq; simp; omega)).mono ?_
   rintro _ H2 ⟨rfl, hx2⟩
   have hnx2 := hx2.next
   simp only [o_cont, o_pure, o_nil, POp.ev, Opd.ev, gv, setD, xsj, xel, unV]
   unfold sysR
   refine Test.split (fun hg => ?_) (fun hg => ?_)
   · simp only [Bool.not_eq_true'] at hg
     refine s_reg ?_
     simp only [o_pure, o_nil, POp.ev, Opd.ev, setD, List.set, xsj, xel]
     refine s_ret1 ?_
     simp +decide only [pqr, pfr, resV, resOne, resL, gv, xsj, xel, Option.bind_some, xms]
     rw [hg]
     exact ⟨⟨.slice none 0 0, rfl, .inl ⟨rfl, rfl⟩⟩, hx.trans hx2⟩
   · simp only [Bool.not_eq_false'] at hg
     refine s_skip1 ?_
     simp +decide only [pqn]
     refine s_reg ?_
     simp only [o_pure, o_nil, POp.ev, Opd.ev, gv, setD, List.set, xsj, xel]
     refine s_ret1 ?_
     simp +decide only [pfr, resV, resOne, resL, gv, xsj, xel, Option.bind_some, xms]
     rw [hg]
     exact ⟨⟨v, rfl, (hO.ext hx2).wide (Nat.le_refl _) hnx2⟩, hx.trans hx2⟩
end Go.Proofs.YtmdeppkfboaepaaGreat
/- Systems of polynomials, part 12 of the walk: the mirrored and the stretched system, both sides; no condition beyond stated lengths. -/
namespace Go.Ab
theorem s_cut {P : Program} {lim : Nat} {Q : Post} {e : List Value} {H : AHeap} {a b : ACode} (I : List Value → AHeap → Prop) (h : awp P lim a (Post.seq I (fun _ _ _ => False)) e H) (h1 : ∀ e' H', I e' H' → awp P lim b Q e' H') : awp P lim (.seq a b) Q e H :=
 s_cut1 I h h1
end Go.Ab
namespace Go.Proofs.YtmdeppkfboaepaaGreat
open Go.Ab
set_option linter.unusedSimpArgs false
set_option linter.unusedVariables false
theorem goodF_all : ∀ {l : List Tm} {u : Option Tm}, goodF u l = true → (∀ t ∈ l, okTm t = true ∧ t.c ≠ 0) ∧ Sorted l
 | [], u, _ => ⟨by simp, by intro i h; simp at h⟩
 | t :: l, u, h => by
   simp only [goodF, Bool.and_eq_true, Bool.not_eq_true', decide_eq_false_iff_not] at h
   obtain ⟨⟨⟨h1, h2⟩, h3⟩, h4⟩ := h
   obtain ⟨g1, g2⟩ := goodF_all h4
   refine ⟨?_, ?_⟩
   · intro x hx
     rcases List.mem_cons.1 hx with rfl | hx
     · exact ⟨h1, h2⟩
     · exact g1 x hx
   · intro i hi
     cases i with
     | zero =>
       match l, h4, hi with
       | v :: l, h4, _ =>
         simp only [goodF, Bool.and_eq_true, Bool.not_eq_true', decide_eq_false_iff_not] at h4
         have := h4.1.2
         simp only [List.getElem_cons_zero, List.getElem_cons_succ]
         omega
     | succ i => exact g2 i (by simpa using hi)
theorem sysF_all : ∀ {n : Nat} {l : List (List Tm)}, sysF n l = true → ∀ p ∈ l, p.length ≤ 20 ∧ (∀ t ∈ p, okTm t = true ∧ t.c ≠ 0) ∧ Sorted p
 | n, [], _, p, hp => by simp at hp
 | n, q :: l, h, p, hp => by
   simp only [sysF, Bool.and_eq_true, goodP, decide_eq_true_eq] at h
   rcases List.mem_cons.1 hp with rfl | hp
   · obtain ⟨g1, g2⟩ := goodF_all h.1.1.1
     exact ⟨by omega, g1, g2⟩
   · exact sysF_all h.2 p hp
theorem goodSS_all {ss : List (List Tm)} (h : goodSS ss = true) : 1 ≤ ss.length ∧ ss.length ≤ 3 ∧ ∀ p ∈ ss, p.length ≤ 20 ∧ (∀ t ∈ p, okTm t = true ∧ t.c ≠ 0) ∧ Sorted p := by
 simp only [goodSS, Bool.and_eq_true, decide_eq_true_eq] at h
 exact ⟨by omega, by omega, sysF_all h.1⟩
theorem ordT_tr (n u : Int) (a b : Tm) : ordT (tr n u a) (tr n u b) = ordT a b := rfl
theorem sorted_tr {l : List Tm} (n u : Int) (h : Sorted l) : Sorted (l.map (tr n u)) := by
 intro i hi
 simp only [List.length_map] at hi
 simp only [List.getElem_map, ordT_tr]
 exact h i hi
theorem need_tr (m n u : Int) : ∀ p : List Tm, needF m (p.map (tr n u)) = needF m p
 | [] => rfl
 | t :: l => by
   rw [List.map_cons, needF, needF, need_tr m n u l]
   rfl
theorem sysF_tr (m : Nat) (n u : Int) : ∀ l : List (List Tm), sysF m l = true → sysF m (l.map (·.map (tr n u))) = l.all fun p => goodP (p.map (tr n u))
 | [], _ => rfl
 | p :: l, h => by
   simp only [sysF, Bool.and_eq_true] at h
   rw [List.map_cons, sysF, sysF_tr m n u l h.2, List.all_cons, ← need_from, need_tr, need_from, h.1.2, Bool.and_true]
theorem sysR_tr {ss : List (List Tm)} (n u : Int) (h : goodSS ss = true) : sysR (tr n u) ss = timesR n u ss := by
 unfold sysR timesR goodSS
 have h2 := h
 simp only [goodSS, Bool.and_eq_true] at h2
 rw [List.length_map, sysF_tr _ n u ss h2.1]
 have : (decide (1 ≤ (ss.length : Int)) && decide ((ss.length : Int) ≤ 3)) = true := by simpa using h2.2
 rw [this, Bool.and_true]
def trR (n : Int) (ss : List (List Tm)) (u : Int) : Option (List (List Tm)) := if goodSS ss && inU ss.length u then timesR n u ss else none
theorem trR_small {n : Int} {ss : List (List Tm)} {u : Int} {l : List (List Tm)} (h : trR n ss u = some l) : l.length ≤ 3 ∧ ∀ p ∈ l, p.length ≤ 20 := by
 unfold trR at h
 split at h
 · rename_i hg
   simp only [Bool.and_eq_true] at hg
   obtain ⟨_, g2, g3⟩ := goodSS_all hg.1
   unfold timesR at h
   split at h
   · cases h
     refine ⟨by simpa using g2, fun p hp => ?_⟩
     obtain ⟨q, hq, rfl⟩ := List.mem_map.1 hp
     simpa using (g3 q hq).1
   · cases h
 · cases h
theorem specTimes_ok {g : FuncId} (C : Int) (hC : C = 2 ∨ C = -1) (hg : g = n_spec_MirrorSystem ∧ C = -1 ∨ g = n_spec_StretchSystem ∧ C = 2) (lim : Nat) (s : Value) (ss : List (List Tm)) (u : Int) (H : AHeap) (hl : lim ≤ H.next) (hs : SlSS H s ss) (hn : ss.length ≤ 1000000) (hn2 : ∀ p ∈ ss, p.length ≤ 1000000) :
   ACalls Tryz.prog lim g [s, .int .i64 u] H fun v H' => ResSS H' H.next v (trR C ss u) ∧ Ext H H' := by
 rcases hg with ⟨rfl, rfl⟩ | ⟨rfl, rfl⟩
 · refine is_spec_MirrorSystem.go rfl ?_
   unfold c_spec_MirrorSystem trR
   refine s_reg ?_
   simp only [o_pure, o_nil, POp.ev, Opd.ev, env0, gu, setD, List.set, xsj, xel]
   refine s_test ?_
   simp only [o_pure, o_callF, POp.ev, Opd.ev, gv, setD, List.map, xsj, xel]
   refine (tfAsked_ok lim _ _ _ _ hl hs hn hn2).mono ?_
   rintro _ H1 ⟨rfl, hx⟩
   simp only [o_cont, o_pure, o_nil, POp.ev, Opd.ev, gv, setD, xsj, xel, unV]
   refine Test.split (fun h => ?_) (fun h => ?_)
   · simp only [Bool.not_eq_true'] at h
     refine s_reg ?_
     simp only [o_pure, o_nil, POp.ev, Opd.ev, setD, List.set, xsj, xel]
     refine s_ret1 ?_
     simp +decide only [pqr, pfr, resV, resOne, resL, gv, xsj, xel, Option.bind_some, xms]
     rw [h]
     exact ⟨⟨.slice none 0 0, rfl, .inl ⟨rfl, rfl⟩⟩, hx⟩
   · simp only [Bool.not_eq_false'] at h
     have hgd := h
     simp only [Bool.and_eq_true] at hgd
     obtain ⟨_, _, hall⟩ := goodSS_all hgd.1
     have hnx := hx.next
     refine s_skip1 ?_
     simp +decide only [pqn]
     refine s_reg ?_
     simp only [o_pure, o_callF, POp.ev, Opd.ev, gv, setD, List.map, xsj, xel]
     refine (tfTimes_ok lim _ _ _ (-1) _ (by omega) (hs.ext hx) hn (fun p hp => (hall p hp).1) (fun p hp t ht => ((hall p hp).2.1 t ht).1) (.inr rfl)).mono ?_
     rintro _ H2 ⟨⟨x, rfl, hO⟩, hx2⟩
     simp only [o_cont, o_pure, o_nil, POp.ev, Opd.ev, gv, setD, List.set, xsj, xel, extV, List.getElem?_toArray, xgz, xgs]
     refine s_ret1 ?_
     simp +decide only [pfr, resV, resOne, resL, gv, xsj, xel, Option.bind_some, xms]
     rw [h]
     exact ⟨⟨x, rfl, hO.wide hnx (Nat.le_refl _)⟩, hx.trans hx2⟩
 · refine is_spec_StretchSystem.go rfl ?_
   unfold c_spec_StretchSystem trR
   refine s_reg ?_
   simp only [o_pure, o_nil, POp.ev, Opd.ev, env0, gu, setD, List.set, xsj, xel]
   refine s_test ?_
   simp only [o_pure, o_callF, POp.ev, Opd.ev, gv, setD, List.map, xsj, xel]
   refine (tfAsked_ok lim _ _ _ _ hl hs hn hn2).mono ?_
   rintro _ H1 ⟨rfl, hx⟩
   simp only [o_cont, o_pure, o_nil, POp.ev, Opd.ev, gv, setD, xsj, xel, unV]
   refine Test.split (fun h => ?_) (fun h => ?_)
   · simp only [Bool.not_eq_true'] at h
     refine s_reg ?_
     simp only [o_pure, o_nil, POp.ev, Opd.ev, setD, List.set, xsj, xel]
     refine s_ret1 ?_
     simp +decide only [pqr, pfr, resV, resOne, resL, gv, xsj, xel, Option.bind_some, xms]
     rw [h]
     exact ⟨⟨.slice none 0 0, rfl, .inl ⟨rfl, rfl⟩⟩, hx⟩
   · simp only [Bool.not_eq_false'] at h
     have hgd := h
     simp only [Bool.and_eq_true] at hgd
     obtain ⟨_, _, hall⟩ := goodSS_all hgd.1
     have hnx := hx.next
     refine s_skip1 ?_
     simp +decide only [pqn]
     refine s_reg ?_
     simp only [o_pure, o_callF, POp.ev, Opd.ev, gv, setD, List.map, xsj, xel]
     refine (tfTimes_ok lim _ _ _ 2 _ (by omega) (hs.ext hx) hn (fun p hp => (hall p hp).1) (fun p hp t ht => ((hall p hp).2.1 t ht).1) (.inl rfl)).mono ?_
     rintro _ H2 ⟨⟨x, rfl, hO⟩, hx2⟩
     simp only [o_cont, o_pure, o_nil, POp.ev, Opd.ev, gv, setD, List.set, xsj, xel, extV, List.getElem?_toArray, xgz, xgs]
     refine s_ret1 ?_
     simp +decide only [pfr, resV, resOne, resL, gv, xsj, xel, Option.bind_some, xms]
     rw [h]
     exact ⟨⟨x, rfl, hO.wide hnx (Nat.le_refl _)⟩, hx.trans hx2⟩
theorem ex_pw (t : Tm) (u : Nat) (h : u < 3) : ex t u = pw t u := by
 match u, h with
 | 0, _ => rfl
 | 1, _ => rfl
 | 2, _ => rfl
theorem mirror1_ok (lim : Nat) (t : Tm) (q u : Nat) (H : AHeap) (hl : lim ≤ H.next) (hu : u < 3) (hq : q < H.next) (hc : H.blk q = some [vi u]) (ht : okTm t = true) :
   ACalls Tryz.prog lim n_impl_MirrorSystem_1 [tv t, .pointer (some ⟨q, 0, none⟩)] H fun v H' => SlT H' v [tr (-1) u t] ∧ Ext H H' := by
 refine is_impl_MirrorSystem_1.go rfl ?_
 unfold c_impl_MirrorSystem_1
 have hpb := pw_b ht u
 have htb := okTm_b ht
 obtain ⟨E, hE⟩ : ∃ E : Nat, pw t u = (E : Int) := ⟨(pw t u).toNat, by omega⟩
 refine s_reg ?_
 simp only [o_pure, o_eff, o_nil, POp.ev, Opd.ev, EOp.ev, env0, gu, gv, setD, List.set, xsj, xel, boxT]
 have hB := BoxT.mk' H t
 have hc1 : (H.alloc (tc t)).blk q = some [vi u] := by rw [hB.ext.blk _ hq]; exact hc
 have hq1 : q < (H.alloc (tc t)).next := Nat.lt_succ_of_lt hq
 generalize H.alloc (tc t) = H1 at hB hc1 hq1 ⊢
 generalize hpe : H.next = p at hB hl hq ⊢
 have hge := hB.ge
 refine s_cut (fun e'' H'' => BoxT H H'' p (tr (-1) u t) ∧ e'' = [tv t, .pointer (some ⟨q, 0, none⟩), .pointer (some ⟨p, 0, none⟩), .slice none 0 0]) ?_ ?_
 · refine s_test1 ?_
   simp only [o_pure, o_callN, POp.ev, Opd.ev, gv, setD, List.map, xsj, xel, load1V, xgz, hB.all, cell_blk hc1]
   refine (exponents_ok H1.next t H1 (Nat.le_refl _)).use ?_
   rintro _ H2 ⟨rfl, hx2⟩ _
   replace hB := hB.mono hx2
   have e20 : ¬ (2 : Int) = 0 := by decide
   have hmod : (E : Int).tmod 2 = ((E % 2 : Nat) : Int) := rfl
   have hex := aix_exp (t := t) hu
   rw [ex_pw t u hu, hE] at hex
   simp only [o_cont, o_pure, o_nil, POp.ev, Opd.ev, gv, setD, xsj, xel, binV, ne_eq, xnt, if_false, hex, if_neg e20, hmod]
   refine Test.split (fun hg => ?_) (fun hg => ?_)
   · have hodd : E = 1 ∨ E = 3 := by simp at hg; omega
     have hneg : IntKind.i64.wrap (0 - t.c) = -t.c := by rw [IntKind.wrap_i64]; omega
     obtain ⟨cs, g1, g2⟩ := hB.put0 (lim := lim) (by omega) (-t.c)
     refine s_reg1 ?_
     simp only [o_pure, o_eff, o_nil, POp.ev, Opd.ev, EOp.ev, gv, setD, xsj, xel, load1V, unV, fadV, Nat.zero_add, hB.c0, hneg, g1]
     simp +decide only [pqn]
     refine ⟨?_, trivial⟩
     have e : tr (-1) u t = { t with c := -t.c } := by
       unfold tr
       rw [hE]
       rcases hodd with rfl | rfl <;> simp
     rw [e]
     exact g2
   · have heven : E = 0 ∨ E = 2 ∨ E = 4 := by simp at hg; omega
     refine s_skip1 ?_
     simp +decide only [pqn]
     refine ⟨?_, trivial⟩
     have e : tr (-1) u t = t := by
       unfold tr
       rw [hE]
       rcases heven with rfl | rfl | rfl <;> simp
     rw [e]
     exact hB
 rintro e'' H2 ⟨hB2, rfl⟩
 refine s_reg ?_
 simp only [o_pure, o_eff, o_nil, POp.ev, Opd.ev, EOp.ev, gv, setD, List.set, List.map, xsj, xel, hB2.all, bsliceT]
 refine s_ret1 ?_
 simp +decide only [pfr, resV, resOne, gv, xsj, xel]
 exact ⟨sl_one H2 _, hB2.ext.trans (Ext.alloc _ _)⟩
theorem stretch1_ok (lim : Nat) (t : Tm) (q u : Nat) (H : AHeap) (hl : lim ≤ H.next) (hu : u < 3) (hq : q < H.next) (hc : H.blk q = some [vi u]) (ht : okTm t = true) :
   ACalls Tryz.prog lim n_impl_StretchSystem_1 [tv t, .pointer (some ⟨q, 0, none⟩)] H fun v H' => SlT H' v [tr 2 u t] ∧ Ext H H' := by
 refine is_impl_StretchSystem_1.go rfl ?_
 unfold c_impl_StretchSystem_1
 have hpb := pw_b ht u
 have htb := okTm_b ht
 obtain ⟨E, hE⟩ : ∃ E : Nat, pw t u = (E : Int) := ⟨(pw t u).toNat, by omega⟩
 refine s_reg ?_
 simp only [o_pure, o_eff, o_nil, POp.ev, Opd.ev, EOp.ev, env0, gu, gv, setD, List.set, xsj, xel, boxT]
 have hB := BoxT.mk' H t
 have hc1 : (H.alloc (tc t)).blk q = some [vi u] := by rw [hB.ext.blk _ hq]; exact hc
 generalize H.alloc (tc t) = H1 at hB hc1 ⊢
 generalize hpe : H.next = p at hB hl hq ⊢
 have hge := hB.ge
 have hmin : min (E : Int).toNat IntKind.i64.bits = E := by have hb : IntKind.i64.bits = 64 := rfl; rw [hb]; omega
 have hneg : ¬ ((E : Int) < 0) := by omega
 have hw : IntKind.i64.wrap (t.c * 2 ^ E) = t.c * 2 ^ E := by
   have := tr_small (c := t.c) (n := 2) (j := E) (by omega) (.inl rfl) (by omega)
   rw [IntKind.wrap_i64]; omega
 have hex := aix_exp (t := t) hu
 rw [ex_pw t u hu, hE] at hex
 refine s_reg ?_
 simp only [o_pure, o_callN, POp.ev, Opd.ev, gv, setD, List.map, xsj, xel, load1V, fadV, xgz, Nat.zero_add, hB.c0, hB.all, cell_blk hc1]
 refine (exponents_ok H1.next t H1 (Nat.le_refl _)).use ?_
 rintro _ H2 ⟨rfl, hx2⟩ _
 replace hB := hB.mono hx2
 obtain ⟨cs, g1, g2⟩ := hB.put0 (lim := lim) (by omega) (t.c * 2 ^ E)
 have e : tr 2 u t = { t with c := t.c * 2 ^ E } := by
   unfold tr
   rw [hE, Int.toNat_natCast]
 rw [← e] at g2
 simp only [o_cont, o_pure, o_eff, o_nil, POp.ev, Opd.ev, EOp.ev, gv, setD, xsj, xel, binV, fadV, Nat.zero_add, hex, if_neg hneg, hmin, hw, g1]
 generalize H2.put p cs = H3 at g2 ⊢
 refine s_reg ?_
 simp only [o_pure, o_eff, o_nil, POp.ev, Opd.ev, EOp.ev, gv, setD, List.set, List.map, xsj, xel, g2.all, bsliceT]
 refine s_ret1 ?_
 simp +decide only [pfr, resV, resOne, gv, xsj, xel]
 exact ⟨sl_one H3 _, g2.ext.trans (Ext.alloc _ _)⟩
end Go.Proofs.YtmdeppkfboaepaaGreat
/- Slices of ints: round 1's contracts, for this seat; no condition beyond stated lengths. -/
namespace Go.Proofs.YtmdeppkfboaepaaGreat.Ints
open Go.Ab
set_option linter.unusedSimpArgs false
set_option linter.unusedVariables false
abbrev vi (n : Int) : Value := .int .i64 n
abbrev fil : Value := .int .i64 (-7000000000000000101)
def roomN (n : Nat) : Nat := if n % 6 = 5 then 0 else if n % 3 = 0 then 1 else n
def laid (l : List Int) : List Value := l.map vi ++ List.replicate (roomN l.length) fil
abbrev SlI (H : AHeap) (s : Value) (l : List Int) : Prop := Sl H s l.length 1 (l.map vi)
theorem SlI.get {H : AHeap} {s : Value} {l : List Int} (h : SlI H s l) {i : Nat} (hi : i < l.length) : ∃ b o, iadV 1 s (.int .i64 i) = some (.pointer (some ⟨b, o, none⟩)) ∧ b < H.next ∧ H.cell b o = some (.int .i64 l[i]) := by
 obtain ⟨b, o, h1, h2, h3⟩ := h.cell .i64 (i := i) (by omega) (by omega)
 exact ⟨b, o, h1, h2, h3.trans (by simp [hi])⟩
theorem SlI.slc {H : AHeap} {s : Value} {l : List Int} (h : SlI H s l) {lo hi : Option Value} {i j : Nat} (hij : i ≤ j) (hj : j ≤ l.length)
   (hlo : lo = none ∧ i = 0 ∨ ∃ k, lo = some (.int k i)) (hhi : hi = none ∧ j = l.length ∨ ∃ k, hi = some (.int k j)) : ∃ v, slcV 1 s lo hi none = some v ∧ SlI H v ((l.drop i).take (j - i)) := by
 obtain ⟨v, h1, h2⟩ := Sl.slc h hij hj hlo hhi
 refine ⟨v, h1, ?_⟩
 have e : ((l.drop i).take (j - i)).length = j - i := by simp; omega
 unfold SlI
 rw [e]
 simpa [List.map_take, List.map_drop] using h2
theorem l1In_ok (lim : Nat) (a b c : Int) (H : AHeap) : ACalls Tryz.prog lim n_spec_l1In [.int .i64 a, .int .i64 b, .int .i64 c] H fun v H' => v = .bool (decide (b ≤ a) && decide (a ≤ c)) ∧ H' = H := by
 refine is_spec_l1In.go rfl ?_
 unfold c_spec_l1In
 refine s_reg ?_
 simp only [o_pure, o_nil, POp.ev, Opd.ev, env0, gu, setD, List.set, xsj, xel]
 refine s_reg ?_
 by_cases h : a ≥ b
 · simp only [o_pure, o_guard, gk_tt, o_nil, POp.ev, Opd.ev, gv, setD, List.set, xsj, xel, pickV, binV, ne_eq, xnt, if_false, decide_eq_true h]
   refine s_ret1 ?_
   simp +decide only [pfr, resV, resOne, gv, xsj, xel]
   simp [h]
 · simp only [o_pure, o_guard, gk_ft, o_nil, POp.ev, Opd.ev, gv, setD, List.set, xsj, xel, pickV, binV, ne_eq, xnt, if_false, decide_eq_false h]
   refine s_ret1 ?_
   simp +decide only [pfr, resV, resOne, gv, xsj, xel]
   simp
theorem inside_ok (lim : Nat) (a b c : Int) (H : AHeap) : ACalls Tryz.prog lim n_impl_inside [.int .i64 a, .int .i64 b, .int .i64 c] H fun v H' => v = .bool (decide (b ≤ a) && decide (a ≤ c)) ∧ H' = H := by
 refine is_impl_inside.go rfl ?_
 unfold c_impl_inside
 refine s_reg ?_
 simp only [o_pure, o_nil, POp.ev, Opd.ev, env0, gu, setD, List.set, xsj, xel]
 refine s_reg ?_
 by_cases h : a ≥ b
 · simp only [o_pure, o_guard, gk_tt, o_nil, POp.ev, Opd.ev, gv, setD, List.set, xsj, xel, pickV, binV, ne_eq, xnt, if_false, decide_eq_true h]
   refine s_ret1 ?_
   simp +decide only [pfr, resV, resOne, gv, xsj, xel]
   simp [h]
 · simp only [o_pure, o_guard, gk_ft, o_nil, POp.ev, Opd.ev, gv, setD, List.set, xsj, xel, pickV, binV, ne_eq, xnt, if_false, decide_eq_false h]
   refine s_ret1 ?_
   simp +decide only [pfr, resV, resOne, gv, xsj, xel]
   simp
abbrev VecI (H : AHeap) (b : Nat) (v : Value) (l : List Int) : Prop := Vec H b v l.length 1 (l.map vi)
def Laid (H : AHeap) (b : Nat) (v : Value) (l : List Int) : Prop := v = .slice (some ⟨b, 0, some 0⟩) l.length (l.length + roomN l.length) ∧ b < H.next ∧ H.blk b = some (laid l)
theorem Laid.vec {H : AHeap} {b : Nat} {v : Value} {l : List Int} (h : Laid H b v l) : VecI H b v l := by
 obtain ⟨rfl, h1, h2⟩ := h
 exact .inr ⟨_, _, List.replicate (roomN l.length) fil, rfl, .inl rfl, h1, h2, by simp, by omega, by simp⟩
theorem Laid.ext {H H' : AHeap} {b : Nat} {v : Value} {l : List Int} (h : Laid H b v l) (hx : Ext H H') : Laid H' b v l := ⟨h.1, Nat.lt_of_lt_of_le h.2.1 hx.next, by rw [hx.blk _ h.2.1]; exact h.2.2⟩
def CopyI (H : AHeap) (b : Nat) (v : Value) (l : List Int) (bare : Bool) : Prop := (bare = true ∧ l = [] ∧ v = .slice none 0 0) ∨ Laid H b v l
theorem CopyI.ext {H H' : AHeap} {b : Nat} {v : Value} {l : List Int} {bare : Bool} (h : CopyI H b v l bare) (hx : Ext H H') : CopyI H' b v l bare := h.imp id fun h => h.ext hx
theorem CopyI.sl {H : AHeap} {b : Nat} {v : Value} {l : List Int} {bare : Bool} (h : CopyI H b v l bare) : SlI H v l := by
 rcases h with ⟨_, rfl, rfl⟩ | h
 · exact Sl.nil _ _
 · exact h.vec.sl
end Go.Proofs.YtmdeppkfboaepaaGreat.Ints
/- Boxes: round 1's contracts, for this seat; no condition beyond stated lengths. -/
namespace Go.Proofs.YtmdeppkfboaepaaGreat.Ints
open Go.Ab
set_option linter.unusedSimpArgs false
set_option linter.unusedVariables false
theorem clone_ok (lim : Nat) (s : Value) (l : List Int) (H : AHeap) (hl : lim ≤ H.next) (hs : SlI H s l) (hn : l.length ≤ 1000000000) :
   ACalls Tryz.prog lim n_slices_Clone_S_int_int [s] H fun v H' => ∃ b, H.next ≤ b ∧ (b < H'.next ∨ v = .slice none 0 0) ∧ VecI H' b v l ∧ Ext H H' := by
 refine is_slices_Clone_S_int_int.go rfl ?_
 unfold c_slices_Clone_S_int_int
 refine s_reg ?_
 simp only [o_pure, o_nil, POp.ev, Opd.ev, env0, gu, setD, List.set, xsj, xel]
 refine s_test ?_
 have hs2 := hs
 obtain ⟨_, a, cap, rfl, hc, hc0, _⟩ := hs2
 cases a with
 | none =>
   have := hc0 rfl
   have hl0 : l = [] := List.length_eq_zero_iff.1 (by omega)
   subst hl0
   simp only [o_pure, o_nil, POp.ev, Opd.ev, gv, setD, xms, xsj, xel, isNilV, if_false, Bool.false_eq_true]
   refine Test.true_ (s_reg ?_)
   simp only [o_pure, o_nil, POp.ev, Opd.ev, setD, List.set, xsj, xel]
   refine s_ret1 ?_
   simp +decide only [pqr, pfr, resV, resOne, gv, xsj, xel]
   exact ⟨H.next, Nat.le_refl _, .inr trivial, Vec.nil _ _ _, Ext.refl _⟩
 | some ad =>
   simp only [o_pure, o_nil, POp.ev, Opd.ev, gv, setD, xms, xsj, xel, isNilV, if_false, Bool.false_eq_true]
   refine Test.false_ (s_skip1 ?_)
   simp +decide only [pqn]
   refine s_reg ?_
   have h0 : Vec (H.alloc []) H.next (.slice (some ⟨H.next, 0, some 0⟩) 0 0) 0 1 [] := Vec.lit rfl
   obtain ⟨v', H', b', h1, h2, h3, h4, h5⟩ := h0.append (lim := lim) hl (hs.keep (Keep.alloc H [] (Nat.le_refl _)) (Nat.le_refl _)) (by decide) (bytes := 8) (by omega)
   simp only [o_pure, o_eff, o_nil, POp.ev, Opd.ev, EOp.ev, gv, setD, List.set, List.map, xms, xsj, xel, bsliceH, fillV, h1]
   refine s_ret1 ?_
   simp +decide only [pfr, resV, resOne, gv, xsj, xel]
   have hx : Ext H H' := Chg.ext (Ext.alloc H []) h4 (Nat.le_refl _)
   refine ⟨b', by rcases h3 with rfl | ⟨rfl, _⟩ <;> simp [alloc_next], .inl ?_, by simpa using h2, hx⟩
   rcases h3 with rfl | ⟨rfl, h6⟩
   · exact Nat.lt_of_lt_of_le (Nat.lt_succ_self _) h4.next
   · exact h6
theorem power_ok (lim : Nat) (k : Nat) (H : AHeap) (hk : k ≤ 60) : ACalls Tryz.prog lim n_spec_dyPower [.int .i64 k] H fun v H' => v = .int .i64 (2 ^ k) ∧ H' = H := by
 refine is_spec_dyPower.go rfl ?_
 unfold c_spec_dyPower
 refine s_reg ?_
 simp only [o_pure, o_nil, POp.ev, Opd.ev, env0, gu, setD, List.set, xsj, xel]
 refine s_reg ?_
 have h1 : IntKind.u64.wrap (k : Int) = k := by simp [IntKind.wrap, IntKind.signed, IntKind.bits]; omega
 have h2 : ¬ ((k : Int) < 0) := by omega
 have h3 : IntKind.i64.wrap (1 * 2 ^ min (k : Int).toNat IntKind.i64.bits) = 2 ^ k := by
   have hb : IntKind.i64.bits = 64 := rfl
   have : min (k : Int).toNat IntKind.i64.bits = k := by rw [hb]; omega
   rw [this, Int.one_mul]
   have h5 := two_pow hk
   exact wrap_small (by omega) (by omega)
 simp only [o_pure, o_nil, POp.ev, Opd.ev, gv, setD, List.set, xsj, xel, binV, convV, h1, if_neg h2, h3]
 refine s_ret1 ?_
 simp +decide only [pfr, resV, resOne, gv, xsj, xel]
def BoxV (H : AHeap) (v : Value) (k : Int) (low high : List Int) : Prop := ∃ s t, v = .agg #[.int .i64 k, s, t] ∧ SlI H s low ∧ SlI H t high
theorem BoxV.keep {H H' : AHeap} {v : Value} {k : Int} {low high : List Int} (h : BoxV H v k low high) (hx : Ext H H') : BoxV H' v k low high := by
 obtain ⟨s, t, h1, h2, h3⟩ := h
 exact ⟨s, t, h1, h2.keep (Keep.of_ext hx (Nat.le_refl _)) (Nat.le_refl _), h3.keep (Keep.of_ext hx (Nat.le_refl _)) (Nat.le_refl _)⟩
structure BoxP (H : AHeap) (p : Nat) (k : Int) (s t : Value) (low high : List Int) : Prop where
 blk : H.blk p = some [.int .i64 k, s, t]
 low : SlI H s low
 high : SlI H t high
theorem BoxP.c0 {H : AHeap} {p : Nat} {k : Int} {s t : Value} {low high : List Int} (h : BoxP H p k s t low high) : H.cell p 0 = some (.int .i64 k) := cell_blk h.blk 0
theorem BoxP.c1 {H : AHeap} {p : Nat} {k : Int} {s t : Value} {low high : List Int} (h : BoxP H p k s t low high) : H.cell p 1 = some s := cell_blk h.blk 1
theorem BoxP.c2 {H : AHeap} {p : Nat} {k : Int} {s t : Value} {low high : List Int} (h : BoxP H p k s t low high) : H.cell p 2 = some t := cell_blk h.blk 2
structure BxE (H H1 : AHeap) (p r : Nat) (k : Int) (s t : Value) (low high : List Int) : Prop where
 ext : Ext H H1
 ge : H.next ≤ p ∧ H.next ≤ r ∧ p ≠ r
 lt : p < H1.next ∧ r < H1.next
 bp : H1.blk p = some [.int .i64 k, s, t]
 br : H1.blk r = some [.int .i64 0, .slice none 0 0, .slice none 0 0]
 sl : SlI H1 s low
 sh : SlI H1 t high
theorem BxE.mono {H H1 H2 : AHeap} {p r : Nat} {k : Int} {s t : Value} {low high : List Int} (h : BxE H H1 p r k s t low high) (hx : Ext H1 H2) : BxE H H2 p r k s t low high := by
 obtain ⟨h1, h2, h3, h4, h5, h6, h7⟩ := h
 have hn := hx.next
 exact ⟨h1.trans hx, h2, by omega, by rw [hx.blk _ h3.1]; exact h4, by rw [hx.blk _ h3.2]; exact h5, h6.keep (Keep.of_ext hx (Nat.le_refl _)) (Nat.le_refl _), h7.keep (Keep.of_ext hx (Nat.le_refl _)) (Nat.le_refl _)⟩
theorem BxE.mk' {H : AHeap} {k : Int} {s t : Value} {low high : List Int} (hs : SlI H s low) (ht : SlI H t high) :
   BxE H ((H.alloc [.int .i64 k, s, t]).alloc [.int .i64 0, .slice none 0 0, .slice none 0 0]) H.next (H.next + 1) k s t low high := by
 have hx : Ext H ((H.alloc [.int .i64 k, s, t]).alloc [.int .i64 0, .slice none 0 0, .slice none 0 0]) := (Ext.alloc _ _).trans (Ext.alloc _ _)
 refine ⟨hx, by omega, by simp only [alloc_next]; omega, ?_, alloc_new _ _, hs.keep (Keep.of_ext hx (Nat.le_refl _)) (Nat.le_refl _), ht.keep (Keep.of_ext hx (Nat.le_refl _)) (Nat.le_refl _)⟩
 rw [alloc_old _ _ (Nat.lt_succ_self _)]
 exact alloc_new _ _
theorem BxE.chg {H H1 H2 : AHeap} {p r b : Nat} {k : Int} {s t : Value} {low high : List Int} (h : BxE H H1 p r k s t low high) (hs : SlI H s low) (ht : SlI H t high) (hc : Chg b H1 H2) (hb : H.next ≤ b) (hp : p ≠ b) (hr : r ≠ b) :
   BxE H H2 p r k s t low high := by
 have hx := hc.ext h.ext hb
 have hn := hc.next
 have hl := h.lt
 exact ⟨hx, h.ge, by omega, by rw [hc.blk _ hl.1 hp]; exact h.bp, by rw [hc.blk _ hl.2 hr]; exact h.br, hs.keep (Keep.of_ext hx (Nat.le_refl _)) (Nat.le_refl _), ht.keep (Keep.of_ext hx (Nat.le_refl _)) (Nat.le_refl _)⟩
theorem CopyI.put {H : AHeap} {b r : Nat} {v : Value} {l : List Int} {bare : Bool} (h : CopyI H b v l bare) (cs : List Value) (hb : b ≠ r) : CopyI (H.put r cs) b v l bare :=
 h.imp id fun h => ⟨h.1, h.2.1, by rw [put_ne _ _ hb]; exact h.2.2⟩
end Go.Proofs.YtmdeppkfboaepaaGreat.Ints
