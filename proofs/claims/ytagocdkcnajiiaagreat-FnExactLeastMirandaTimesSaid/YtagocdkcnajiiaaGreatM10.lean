/- Parts of the proof of a statement of this seat: contracts of functions that the law calls, or the law's own row; no condition. -/
import Derived.Test.YtagocdkcnajiiaaGreatM9
/- The parts that pass Miranda's condition: the program; no condition beyond stated ranges. -/
namespace Go.Proofs.YtagocdkcnajiiaaGreat
open Go.Ab Ints
set_option linter.unusedSimpArgs false
set_option linter.unusedVariables false
theorem iMi_ok (lim : Nat) (s bl bu : Value) (ss : List (List Tm)) (q K t n : Nat) (L U : List Int) (H : AHeap) (hl : lim ≤ H.next) (hs : SlSS H s ss) (hv : BoxP H q K bl bu L U) (hq : q < H.next) (hg : goodB K L U = true) (hK : K ≤ 4) (ht : t ≤ 2) (hL : L.length = n) (hss : goodSS ss = true) (hn : ss.length = n) :
   ACalls Tryz.prog lim n_impl_mirandaParts [s, .pointer (some ⟨q, 0, none⟩), .int .i64 t] H fun v H' => ResIL H' H.next v (miR ss n (PartD K t n L U)) ∧ Ext H H' := by
 have hpc := fun (x : Bx3) hx h4 => part_crs (x := x) (t := t) hg hK ht hL hss hn hx h4
 obtain ⟨_, _, q3, q4, q5, _, _⟩ := goodB_small hg
 have hDl := partD_len (K := K) (t := t) (n := n) (L := L) (U := U) (by omega) ht
 have hpp := goodSS_pol hss
 refine is_impl_mirandaParts.go rfl ?_
 unfold c_impl_mirandaParts
 refine s_reg ?_
 simp only [o_pure, o_nil, POp.ev, Opd.ev, env0, gu, setD, List.set, xsj, xel]
 refine s_reg ?_
 simp only [o_pure, o_callF, POp.ev, Opd.ev, gv, setD, List.map, xsj, xel]
 refine (iParts_ok lim q K t n bl bu L U H hl hv hq hg hK ht hL).mono ?_
 rintro _ H2 ⟨⟨pv, es, b, rfl, hD, hG⟩, hx2⟩
 have hn2 := hx2.next
 have hD : es.map dat = PartD K t n L U := hD
 generalize PartD K t n L U = D at hD hpc hDl ⊢
 have hlen : es.length = D.length := by have := congrArg List.length hD; simpa using this
 simp only [o_cont, o_pure, o_nil, POp.ev, Opd.ev, gv, setD, List.set, xsj, xel, extV, List.getElem?_toArray, List.getElem?_cons_zero, List.getElem?_cons_succ]
 refine s_test ?_
 simp only [o_pure, o_nil, POp.ev, Opd.ev, gv, setD, xsj, xel, unV, Bool.not_true]
 refine Test.false_ (s_skip1 ?_)
 simp +decide only [pqn]
 refine s_reg ?_
 simp only [o_pure, o_nil, POp.ev, Opd.ev, setD, List.set, xsj, xel]
 refine s_assoc (s_reg ?_)
 simp only [o_pure, o_nil, POp.ev, Opd.ev, gv, setD, List.set, xsj, xel, hG.slb.lenV]
 refine s_block ?_
 refine s_loop1 (fun j e' H' => ∃ (m b8 : Nat) (out x8 : Value), m + j = es.length ∧ VecI H' b8 out (zl (idxO ss n D m)) ∧ H2.next ≤ b8 ∧ (b8 < H'.next ∨ (out = .slice none 0 0 ∧ zl (idxO ss n D m) = [])) ∧ (∀ x ∈ D.take m, x.1 ≤ 4) ∧ Ext H2 H' ∧ e' = [s, .pointer (some ⟨q, 0, none⟩), .int .i64 t, .slice none 0 0, .bool false, pv, .bool true, out, x8, .int .i64 es.length, .int .i64 m]) es.length ⟨0, H2.next, .slice none 0 0, _, by omega, Vec.nil _ _ _, Nat.le_refl _, .inr ⟨rfl, rfl⟩, by simp, Ext.refl _, rfl⟩ ?_
 rintro j e' H3 ⟨m, b8, out, x8, hmj, hv8, hb8, hst8, h4, hx3, rfl⟩
 have hn3 := hx3.next
 refine s_test ?_
 simp only [o_pure, o_nil, POp.ev, Opd.ev, gv, setD, xsj, xel, binV, ne_eq, xnt, if_false]
 refine Test.split (fun hlt => ?_) (fun hlt => ?_)
 · have hm : m < es.length := by have := of_decide_eq_true hlt; omega
   have hmD : m < D.length := by omega
   obtain ⟨u1, u2, hbx⟩ := (hG.ext hx3).boxQ hm
   have hdx := map_get hD hm hmD
   have hids := idxO_succ (ss := ss) (n := n) hmD
   have hidl := idxO_len ss n D m
   have hno := miR_no (ss := ss) (n := n) hmD
   have hpc' := hpc D[m] (List.getElem_mem hmD)
   have h4' : D[m].1 ≤ 4 → ∀ x ∈ D.take (m + 1), x.1 ≤ 4 := by
     intro h x hx
     rw [List.take_succ_eq_append_getElem hmD] at hx
     rcases List.mem_append.1 hx with hx | hx
     · exact h4 x hx
     · rw [List.mem_singleton] at hx
       rw [hx]; exact h
   generalize D[m] = dm at *
   generalize es[m] = x at *
   obtain ⟨xk, xs, xt, xlo, xhi⟩ := x
   obtain rfl : (xk, xlo, xhi) = dm := hdx
   simp only at hbx
   refine s_skip1 ?_
   simp +decide only [pqn]
   refine s_block1 ?_
   refine s_reg ?_
   simp only [o_pure, o_nil, POp.ev, Opd.ev, gv, setD, List.set, xsj, xel]
   refine s_test ?_
   simp only [o_pure, o_nil, POp.ev, Opd.ev, gv, setD, xsj, xel, binV, load1V, fadV, ne_eq, xnt, if_false, u1, Nat.add_zero, hbx.c0]
   refine Test.split (fun hlt2 => ?_) (fun hlt2 => ?_)
   · have hk : 4 < xk := by have := of_decide_eq_true hlt2; omega
     refine s_reg ?_
     simp only [o_pure, o_nil, POp.ev, Opd.ev, setD, List.set, xsj, xel]
     refine s_ret1 ?_
     simp +decide only [p_seq_ret, p_block_ret, pfr, resV, resOne, resL, gv, xsj, xel, Option.bind_some, Option.map_some]
     rw [hno hk]
     exact ⟨⟨_, rfl, .inl ⟨rfl, rfl⟩⟩, hx2.trans hx3⟩
   · have hk : xk ≤ 4 := by have := of_decide_eq_false hlt2; omega
     have hc := hpc' hk
     refine s_skip1 ?_
     simp +decide only [pqn]
     have hx03 := hx2.trans hx3
     have hl6 := passing_len (k := xk) (ss := ss) (L := xlo) (U := xhi) hc.n3
     have hcall : ACalls Tryz.prog lim n_impl_mirandaOrders [s, .pointer (some ⟨b, m * 3, none⟩)] H3 _ := mirandaOrdersQ_ok lim s xs xt ss xlo xhi xk n b H3 (by omega) (hs.ext hx03) hbx u2 hc (fun p hp => by rw [← hn]; exact hpp p hp) hn
     refine s_test1 ?_
     simp only [o_pure, o_callF, POp.ev, Opd.ev, gv, setD, List.map, xsj, xel, u1]
     refine hcall.mono ?_
     rintro w H5 ⟨hw, hx5⟩
     simp only [o_cont, o_pure, o_nil, POp.ev, Opd.ev, gv, setD, xsj, xel, binV, ne_eq, xnt, if_false, hw.slss.lenV]
     refine Test.split (fun hlt3 => ?_) (fun hlt3 => ?_)
     · have hp : pB ss n (xk, xlo, xhi) = true := by
         have := of_decide_eq_true hlt3
         rw [List.length_map] at this
         exact decide_eq_true (by simp only; omega)
       have hn5 := hx5.next
       rw [hp, if_pos rfl] at hids
       obtain ⟨v', H6, b', e1, e2, e3, e4, e5, e6⟩ := push1 (lim := lim) (bytes := 8) (hv8.ext hx5) (vi (m : Int)) (by omega) (by rw [zl_length]; omega)
       refine s_reg1 ?_
       simp only [o_pure, o_eff, o_nil, POp.ev, Opd.ev, EOp.ev, gv, setD, List.set, List.map, xsj, xel, bsliceV _ (.int .i64 0) (x := .int .i64 (m : Int)) rfl, e1]
       simp +decide only [pqn, pbn]
       refine s_reg1 ?_
       simp only [o_pure, o_nil, POp.ev, Opd.ev, gv, setD, List.set, xsj, xel, binV, ne_eq, xnt, if_false, add1 (i := m) (by omega)]
       simp +decide only [pqn]
       refine Round.mk (j - 1) (by omega) ⟨m + 1, b', v', _, by omega, ?_, by rcases e3 with h | h <;> omega, .inl e4, h4' hk, Chg.ext (hx3.trans hx5) e5 hb8, rfl⟩
       rw [hids, zl_snoc]
       exact VecI.snoc e2
     · have hp : pB ss n (xk, xlo, xhi) = false := by
         have := of_decide_eq_false hlt3
         rw [List.length_map] at this
         exact decide_eq_false (by simp only; omega)
       rw [hp, if_neg (by decide), List.append_nil] at hids
       refine s_skip1 ?_
       simp +decide only [pqn, pbn]
       refine s_reg1 ?_
       simp only [o_pure, o_nil, POp.ev, Opd.ev, gv, setD, List.set, xsj, xel, binV, ne_eq, xnt, if_false, add1 (i := m) (by omega)]
       simp +decide only [pqn]
       have hn5 := hx5.next
       refine Round.mk (j - 1) (by omega) ⟨m + 1, b8, out, _, by omega, by rw [hids]; exact hv8.ext hx5, hb8, by rw [hids]; exact hst8.imp (fun h => by omega) id, h4' hk, hx3.trans hx5, rfl⟩
 · have hm : m = es.length := by have := of_decide_eq_false hlt; omega
   subst hm
   refine s_exit1 ?_
   simp +decide only [pqn, p_seq_exit, p_block_exit, reduceIte]
   rw [hlen] at hv8 hst8 h4
   rw [List.take_length] at h4
   refine s_reg ?_
   simp only [o_pure, o_nil, POp.ev, Opd.ev, gv, setD, List.set, xsj, xel]
   refine s_ret1 ?_
   simp +decide only [pfr, resV, resOne, resL, gv, xsj, xel, Option.bind_some, Option.map_some]
   rw [miR_yes h4]
   refine ⟨⟨_, rfl, ?_⟩, hx2.trans hx3⟩
   rcases hst8 with h | h
   · exact .inr ⟨b8, by omega, h, hv8⟩
   · exact .inl h
theorem askB_all {ss : List (List Tm)} {k : Int} {L U : List Int} (h : askB ss k L U = true) : ∃ K n : Nat, k = K ∧ ss.length = n ∧ L.length = n ∧ goodB (K : Int) L U = true ∧ K ≤ 4 ∧ goodSS ss = true := by
 simp only [askB, Bool.and_eq_true, decide_eq_true_eq] at h
 obtain ⟨⟨⟨h1, h2⟩, h3⟩, h4⟩ := h
 have h4' : ss.length = L.length := by have := h4; simp at this; omega
 obtain ⟨g1, _⟩ := goodB_small h2
 obtain ⟨K, rfl⟩ : ∃ K : Nat, k = K := ⟨k.toNat, by omega⟩
 exact ⟨K, ss.length, rfl, rfl, by omega, h2, by omega, h1⟩
theorem ResIL.low {H : AHeap} {lo lo' : Nat} {v : Value} {r : Option (List Nat)} (h : ResIL H lo v r) (hl : lo' ≤ lo) : ResIL H lo' v r := by
 obtain ⟨x, rfl, g⟩ := h
 refine ⟨x, rfl, ?_⟩
 rcases g with h | ⟨c, c1, c2, c3⟩
 · exact .inl h
 · exact .inr ⟨c, by omega, c2, c3⟩
/-- what LeastMirandaTimes answers -/
def lmF (ss : List (List Tm)) (n K : Nat) (L U : List Int) : Nat → Nat → Int × Bool
 | _, 0 => (0, false)
 | t, f + 1 => match miR ss n (PartD K t n L U) with
   | none => (0, false)
   | some [] => lmF ss n K L U (t + 1) f
   | some (_ :: _) => (t, true)
def lmR (ss : List (List Tm)) (k : Int) (L U : List Int) : Int × Bool := if askB ss k L U then lmF ss ss.length k.toNat L U 0 3 else (0, false)
theorem sLeast_ok (lim : Nat) (s v : Value) (ss : List (List Tm)) (k : Int) (L U : List Int) (H : AHeap) (hl : lim ≤ H.next) (hs : SlSS H s ss) (hv : BoxV H v k L U) (hn : ss.length ≤ 1000000) (hn2 : ∀ p ∈ ss, p.length ≤ 1000000) (hL : L.length ≤ 1000000) (hU : U.length ≤ 1000000) :
   ACalls Tryz.prog lim n_spec_LeastMirandaTimes [s, v] H fun v H' => v = .tuple #[.int .i64 (lmR ss k L U).1, .bool (lmR ss k L U).2] ∧ Ext H H' := by
 obtain ⟨ls, us, rfl, hls, hus⟩ := hv
 refine is_spec_LeastMirandaTimes.go rfl ?_
 unfold c_spec_LeastMirandaTimes
 refine s_reg ?_
 simp only [o_pure, o_eff, o_nil, POp.ev, Opd.ev, EOp.ev, env0, gu, gv, setD, List.set, Option.map_some, xsj, xel, boxH, cellsV]
 have hx := Ext.alloc H [.int .i64 (k : Int), ls, us]
 have hbp : (H.alloc [.int .i64 (k : Int), ls, us]).blk H.next = some [.int .i64 (k : Int), ls, us] := alloc_new _ _
 have hbl : H.next < (H.alloc [.int .i64 k, ls, us]).next := Nat.lt_succ_self _
 generalize H.alloc [.int .i64 (k : Int), ls, us] = H1 at hx hbp hbl ⊢
 have hn1 := hx.next
 refine s_test_I (!askB ss k L U) (Ext H1) ?_ (fun H2 hx2 hg => ?_) (fun H2 hx2 hg => ?_)
 · simp only [o_pure, o_callF, POp.ev, Opd.ev, gv, setD, List.map, xsj, xel, load3 hbp]
   refine (miAsked_ok lim s _ ss k L U H1 (by omega) (hs.ext hx) ⟨_, _, rfl, SlI.ext hls hx, SlI.ext hus hx⟩ hn hn2 hL hU).mono ?_
   rintro _ H2 ⟨rfl, hx2⟩
   simp only [o_cont, o_pure, o_nil, POp.ev, Opd.ev, gv, setD, xsj, xel, unV]
   exact ⟨trivial, trivial, hx2⟩
 · refine s_reg ?_
   simp only [o_pure, o_nil, POp.ev, Opd.ev, setD, List.set, xsj, xel]
   refine s_ret1 ?_
   simp +decide only [p_seq_ret, pfr, resV, resOne, resL, gv, xsj, xel, Option.bind_some, Option.map_some]
   simp only [Bool.not_eq_true'] at hg
   unfold lmR
   rw [hg]
   exact ⟨rfl, hx.trans hx2⟩
 simp only [Bool.not_eq_false'] at hg
 have hn2' := hx2.next
 have hx02 := hx.trans hx2
 obtain ⟨K, n, rfl, e1, e2, e3, e4, e5⟩ := askB_all hg
 have hR : lmR ss K L U = lmF ss n K L U 0 3 := by unfold lmR; rw [hg, e1] <;> rfl
 generalize lmR ss K L U = R at hR ⊢
 refine s_skip1 ?_
 simp +decide only [pqn]
 refine s_assoc (s_reg ?_)
 simp only [o_pure, o_nil, POp.ev, Opd.ev, setD, List.set, xsj, xel]
 refine s_block ?_
 refine s_loop1 (fun j e' H' => ∃ (t : Nat) (x6 x7 : Value), t + j = 3 ∧ R = lmF ss n K L U t j ∧ Ext H H' ∧ H'.blk H.next = some [.int .i64 K, ls, us] ∧ H.next < H'.next ∧ e' = [s, .agg #[.int .i64 K, ls, us], .pointer (some ⟨H.next, 0, none⟩), .int .i64 0, .bool false, .int .i64 t, x6, x7]) 3 ⟨0, _, _, rfl, hR, hx02, by rw [hx2.blk _ hbl]; exact hbp, by omega, rfl⟩ ?_
 rintro j e' H3 ⟨t, x6, x7, htj, hRt, hx3, hb3, hl3, rfl⟩
 have hn3 := hx3.next
 refine s_test ?_
 simp only [o_pure, o_nil, POp.ev, Opd.ev, gv, setD, xsj, xel, binV, ne_eq, xnt, if_false]
 refine Test.split (fun hlt => ?_) (fun hlt => ?_)
 · have ht : t ≤ 2 := by have := of_decide_eq_true hlt; omega
   obtain ⟨f, rfl⟩ : ∃ f, j = f + 1 := ⟨j - 1, by omega⟩
   rw [lmF] at hRt
   refine s_skip1 ?_
   simp +decide only [pqn]
   refine s_block1 ?_
   refine s_reg ?_
   simp only [o_pure, o_callF, POp.ev, Opd.ev, gv, setD, List.map, xsj, xel, load3 hb3]
   refine (sMi_ok lim s _ ss K t n L U H3 (by omega) (hs.ext hx3) ⟨_, _, rfl, SlI.ext hls hx3, SlI.ext hus hx3⟩ e3 e4 ht e2 e5 e1).mono ?_
   generalize miR ss n (PartD K t n L U) = r at hRt
   rintro _ H4 ⟨⟨x, rfl, ho⟩, hx4⟩
   have hn4 := hx4.next
   have hx04 := hx3.trans hx4
   cases r with
   | none =>
     simp only [o_cont, o_pure, o_nil, POp.ev, Opd.ev, gv, setD, List.set, xsj, xel, extV, List.getElem?_toArray, List.getElem?_cons_zero, List.getElem?_cons_succ]
     refine s_test ?_
     simp only [o_pure, o_nil, POp.ev, Opd.ev, gv, setD, xsj, xel, unV, Bool.not_false, Option.isSome_none]
     refine Test.true_ ?_
     refine s_reg ?_
     simp only [o_pure, o_nil, POp.ev, Opd.ev, setD, List.set, xsj, xel]
     refine s_ret1 ?_
     simp +decide only [p_seq_ret, p_block_ret, pfr, resV, resOne, resL, gv, xsj, xel, Option.bind_some, Option.map_some]
     exact ⟨by rw [hRt] <;> rfl, hx04⟩
   | some l =>
     have hlen := ho.sl.lenV
     simp only [Option.getD_some, zl_length] at hlen
     simp only [o_cont, o_pure, o_nil, POp.ev, Opd.ev, gv, setD, List.set, xsj, xel, extV, List.getElem?_toArray, List.getElem?_cons_zero, List.getElem?_cons_succ]
     refine s_test ?_
     simp only [o_pure, o_nil, POp.ev, Opd.ev, gv, setD, xsj, xel, unV, Bool.not_true, Option.isSome_some]
     refine Test.false_ (s_skip1 ?_)
     simp +decide only [pqn]
     refine s_test1 ?_
     simp only [o_pure, o_nil, POp.ev, Opd.ev, gv, setD, xsj, xel, binV, ne_eq, xnt, if_false, hlen]
     refine Test.split (fun hlt2 => ?_) (fun hlt2 => ?_)
     · cases l with
       | nil => simp at hlt2
       | cons a l =>
         refine s_reg ?_
         simp only [o_pure, o_nil, POp.ev, Opd.ev, gv, setD, List.set, xsj, xel]
         refine s_ret1 ?_
         simp +decide only [p_seq_ret, p_block_ret, pfr, resV, resOne, resL, gv, xsj, xel, Option.bind_some, Option.map_some]
         exact ⟨by rw [hRt] <;> rfl, hx04⟩
     · cases l with
       | cons a l => simp at hlt2 <;> omega
       | nil =>
         refine s_skip1 ?_
         simp +decide only [pqn, pbn]
         refine s_reg1 ?_
         simp only [o_pure, o_nil, POp.ev, Opd.ev, gv, setD, List.set, xsj, xel, binV, ne_eq, xnt, if_false, add1 (i := t) (by omega)]
         simp +decide only [pqn]
         exact Round.mk f (by omega) ⟨t + 1, _, _, by omega, hRt, hx04, by rw [hx4.blk _ hl3]; exact hb3, by omega, rfl⟩
 · have ht : t = 3 := by have := of_decide_eq_false hlt; omega
   obtain rfl : j = 0 := by omega
   refine s_exit1 ?_
   simp +decide only [pqn, p_seq_exit, p_block_exit, reduceIte]
   refine s_reg ?_
   simp only [o_pure, o_nil, POp.ev, Opd.ev, setD, List.set, xsj, xel]
   refine s_ret1 ?_
   simp +decide only [pfr, resV, resOne, resL, gv, xsj, xel, Option.bind_some, Option.map_some]
   exact ⟨by rw [hRt] <;> rfl, hx3⟩
theorem iLeast_ok (lim : Nat) (s v : Value) (ss : List (List Tm)) (k : Int) (L U : List Int) (H : AHeap) (hl : lim ≤ H.next) (hs : SlSS H s ss) (hv : BoxV H v k L U) (hn : ss.length ≤ 1000000) (hn2 : ∀ p ∈ ss, p.length ≤ 1000000) (hL : L.length ≤ 1000000) (hU : U.length ≤ 1000000) :
   ACalls Tryz.prog lim n_impl_LeastMirandaTimes [s, v] H fun v H' => v = .tuple #[.int .i64 (lmR ss k L U).1, .bool (lmR ss k L U).2] ∧ Ext H H' := by
 obtain ⟨ls, us, rfl, hls, hus⟩ := hv
 refine is_impl_LeastMirandaTimes.go rfl ?_
 unfold c_impl_LeastMirandaTimes
 refine s_reg ?_
 simp only [o_pure, o_eff, o_nil, POp.ev, Opd.ev, EOp.ev, env0, gu, gv, setD, List.set, Option.map_some, xsj, xel, boxH, cellsV]
 have hx := Ext.alloc H [.int .i64 (k : Int), ls, us]
 have hbp : BoxP (H.alloc [.int .i64 k, ls, us]) H.next k ls us L U := ⟨alloc_new _ _, SlI.ext hls hx, SlI.ext hus hx⟩
 have hbl : H.next < (H.alloc [.int .i64 k, ls, us]).next := Nat.lt_succ_self _
 generalize H.alloc [.int .i64 (k : Int), ls, us] = H1 at hx hbp hbl ⊢
 have hn1 := hx.next
 refine s_test_I (!askB ss k L U) (Ext H1) ?_ (fun H2 hx2 hg => ?_) (fun H2 hx2 hg => ?_)
 · simp only [o_pure, o_callF, POp.ev, Opd.ev, gv, setD, List.map, xsj, xel]
   refine (systemOver_ok lim s ls us ss k L U H.next H1 (by omega) (hs.ext hx) hbp hbl hn hn2 hL hU).mono ?_
   rintro _ H2 ⟨rfl, hx2⟩
   have hb2 := hbp.ext hbl hx2
   rw [ask_over]
   cases h1 : overB ss k L U
   · simp only [o_cont, o_pure, o_guard, gk_tf, o_nil, POp.ev, Opd.ev, gv, setD, xsj, xel, pickV, unV, Bool.not_false]
     exact ⟨by simp, trivial, hx2⟩
   simp only [o_cont, o_pure, o_guard, gk_ff, o_nil, POp.ev, Opd.ev, gv, setD, xsj, xel, pickV, binV, load1V, unV, fadV, ne_eq, xnt, if_false, Bool.not_true, List.getElem?_cons_zero, Nat.zero_add, cell_blk hb2.blk]
   refine ⟨?_, trivial, hx2⟩
   by_cases h2 : k > 4 <;> simp [h2] <;> omega
 · refine s_reg ?_
   simp only [o_pure, o_nil, POp.ev, Opd.ev, setD, List.set, xsj, xel]
   refine s_ret1 ?_
   simp +decide only [p_seq_ret, pfr, resV, resOne, resL, gv, xsj, xel, Option.bind_some, Option.map_some]
   simp only [Bool.not_eq_true'] at hg
   unfold lmR
   rw [hg]
   exact ⟨rfl, hx.trans hx2⟩
 simp only [Bool.not_eq_false'] at hg
 have hn2' := hx2.next
 have hx02 := hx.trans hx2
 obtain ⟨K, n, rfl, e1, e2, e3, e4, e5⟩ := askB_all hg
 have hR : lmR ss K L U = lmF ss n K L U 0 3 := by unfold lmR; rw [hg, e1] <;> rfl
 generalize lmR ss K L U = R at hR ⊢
 refine s_skip1 ?_
 simp +decide only [pqn]
 refine s_assoc (s_reg ?_)
 simp only [o_pure, o_nil, POp.ev, Opd.ev, setD, List.set, xsj, xel]
 refine s_block ?_
 refine s_loop1 (fun j e' H' => ∃ (t : Nat) (x5 x6 x7 : Value), t + j = 3 ∧ R = lmF ss n K L U t j ∧ Ext H H' ∧ BoxP H' H.next K ls us L U ∧ H.next < H'.next ∧ e' = [s, .agg #[.int .i64 K, ls, us], .pointer (some ⟨H.next, 0, none⟩), .int .i64 0, .bool false, x5, x6, x7, .int .i64 t]) 3 ⟨0, _, _, _, rfl, hR, hx02, hbp.ext hbl hx2, by omega, rfl⟩ ?_
 rintro j e' H3 ⟨t, x5, x6, x7, htj, hRt, hx3, hb3, hl3, rfl⟩
 have hn3 := hx3.next
 refine s_test ?_
 simp only [o_pure, o_nil, POp.ev, Opd.ev, gv, setD, xsj, xel, binV, ne_eq, xnt, if_false]
 refine Test.split (fun hlt => ?_) (fun hlt => ?_)
 · have ht : t ≤ 2 := by have := of_decide_eq_true hlt; omega
   obtain ⟨f, rfl⟩ : ∃ f, j = f + 1 := ⟨j - 1, by omega⟩
   rw [lmF] at hRt
   refine s_skip1 ?_
   simp +decide only [pqn]
   refine s_block1 ?_
   refine s_reg ?_
   simp only [o_pure, o_nil, POp.ev, Opd.ev, gv, setD, List.set, xsj, xel]
   refine s_reg ?_
   simp only [o_pure, o_callF, POp.ev, Opd.ev, gv, setD, List.map, xsj, xel]
   refine (iMi_ok lim s ls us ss H.next K t n L U H3 (by omega) (hs.ext hx3) hb3 hl3 e3 e4 ht e2 e5 e1).mono ?_
   generalize miR ss n (PartD K t n L U) = r at hRt
   rintro _ H4 ⟨⟨x, rfl, ho⟩, hx4⟩
   have hn4 := hx4.next
   have hx04 := hx3.trans hx4
   cases r with
   | none =>
     simp only [o_cont, o_pure, o_nil, POp.ev, Opd.ev, gv, setD, List.set, xsj, xel, extV, List.getElem?_toArray, List.getElem?_cons_zero, List.getElem?_cons_succ]
     refine s_test ?_
     simp only [o_pure, o_nil, POp.ev, Opd.ev, gv, setD, xsj, xel, unV, Bool.not_false, Option.isSome_none]
     refine Test.true_ ?_
     refine s_reg ?_
     simp only [o_pure, o_nil, POp.ev, Opd.ev, setD, List.set, xsj, xel]
     refine s_ret1 ?_
     simp +decide only [p_seq_ret, p_block_ret, pfr, resV, resOne, resL, gv, xsj, xel, Option.bind_some, Option.map_some]
     exact ⟨by rw [hRt] <;> rfl, hx04⟩
   | some l =>
     have hlen := ho.sl.lenV
     simp only [Option.getD_some, zl_length] at hlen
     simp only [o_cont, o_pure, o_nil, POp.ev, Opd.ev, gv, setD, List.set, xsj, xel, extV, List.getElem?_toArray, List.getElem?_cons_zero, List.getElem?_cons_succ]
     refine s_test ?_
     simp only [o_pure, o_nil, POp.ev, Opd.ev, gv, setD, xsj, xel, unV, Bool.not_true, Option.isSome_some]
     refine Test.false_ (s_skip1 ?_)
     simp +decide only [pqn]
     refine s_test1 ?_
     simp only [o_pure, o_nil, POp.ev, Opd.ev, gv, setD, xsj, xel, binV, ne_eq, xnt, if_false, hlen]
     refine Test.split (fun hlt2 => ?_) (fun hlt2 => ?_)
     · cases l with
       | nil => simp at hlt2
       | cons a l =>
         refine s_reg ?_
         simp only [o_pure, o_nil, POp.ev, Opd.ev, gv, setD, List.set, xsj, xel]
         refine s_ret1 ?_
         simp +decide only [p_seq_ret, p_block_ret, pfr, resV, resOne, resL, gv, xsj, xel, Option.bind_some, Option.map_some]
         exact ⟨by rw [hRt] <;> rfl, hx04⟩
     · cases l with
       | cons a l => simp at hlt2 <;> omega
       | nil =>
         refine s_skip1 ?_
         simp +decide only [pqn, pbn]
         refine s_reg1 ?_
         simp only [o_pure, o_nil, POp.ev, Opd.ev, gv, setD, List.set, xsj, xel, binV, ne_eq, xnt, if_false, add1 (i := t) (by omega)]
         simp +decide only [pqn]
         exact Round.mk f (by omega) ⟨t + 1, _, _, _, by omega, hRt, hx04, hb3.ext hl3 hx4, by omega, rfl⟩
 · have ht : t = 3 := by have := of_decide_eq_false hlt; omega
   obtain rfl : j = 0 := by omega
   refine s_exit1 ?_
   simp +decide only [pqn, p_seq_exit, p_block_exit, reduceIte]
   refine s_reg ?_
   simp only [o_pure, o_nil, POp.ev, Opd.ev, setD, List.set, xsj, xel]
   refine s_ret1 ?_
   simp +decide only [pfr, resV, resOne, resL, gv, xsj, xel, Option.bind_some, Option.map_some]
   exact ⟨by rw [hRt] <;> rfl, hx3⟩
theorem lawLeastMirandaTimes_ok (lim : Nat) (s v : Value) (ss : List (List Tm)) (k : Int) (L U : List Int) (H : AHeap) (hl : lim ≤ H.next) (hs : SlSS H s ss) (hv : BoxV H v k L U) (hn : ss.length ≤ 20000000000000) (hn2 : ∀ p ∈ ss, p.length ≤ 20000000000000) (hL : L.length ≤ 20000000000000) (hU : U.length ≤ 20000000000000) :
   ACalls Tryz.prog lim n_laws_FnExactLeastMirandaTimes [s, v] H fun v H' => v = .bool true := by
 obtain ⟨ls, us, rfl, hls, hus⟩ := hv
 refine is_laws_FnExactLeastMirandaTimes.go rfl ?_
 unfold c_laws_FnExactLeastMirandaTimes
 refine s_reg ?_
 simp only [o_pure, o_eff, o_nil, POp.ev, Opd.ev, EOp.ev, env0, gu, gv, setD, List.set, Option.map_some, xsj, xel, boxH, cellsV]
 have hx : Ext H (H.alloc [.int .i64 k, ls, us]) := Ext.alloc _ _
 have hls1 := SlI.ext hls hx
 have hus1 := SlI.ext hus hx
 have hs1 := hs.ext hx
 have hbp : (H.alloc [.int .i64 k, ls, us]).blk H.next = some [.int .i64 k, ls, us] := alloc_new _ _
 have hbl : H.next < (H.alloc [.int .i64 k, ls, us]).next := Nat.lt_succ_self _
 generalize H.alloc [.int .i64 k, ls, us] = H1 at hx hls1 hus1 hs1 hbp hbl ⊢
 have hn1 := hx.next
 generalize H.next = q at *
 refine s_reg ?_
 simp only [o_pure, o_nil, POp.ev, Opd.ev, setD, List.set, xsj, xel]
 refine s_reg ?_
 simp only [o_pure, o_callF, POp.ev, Opd.ev, gv, setD, List.map, xsj, xel]
 refine (szTermSSb_ok lim _ _ 1000000 _ hs1 (by omega) (by omega) hn hn2).mono ?_
 rintro _ HH ⟨⟨z, rfl, hz⟩, hh⟩
 subst HH
 simp only [o_cont, o_pure, o_nil, POp.ev, Opd.ev, gv, setD, List.set, xsj, xel]
 refine s_test ?_
 simp only [o_pure, o_nil, POp.ev, Opd.ev, gv, setD, xsj, xel, binV, ne_eq, xnt, if_false]
 refine Test.split (fun h => ?_) (fun h => ?_)
 · refine s_reg ?_
   simp only [o_pure, o_nil, POp.ev, Opd.ev, setD, List.set, xsj, xel]
   refine s_ret1 ?_
   simp +decide only [p_seq_ret, pfr, resV, resOne, gv, xsj, xel]
 have hz0 : ¬ z < 0 := by simpa using h
 have hsz := hz hz0
 clear hz h hn hn2
 have hn : ss.length ≤ 1000000 := by omega
 have hn2 : ∀ p ∈ ss, p.length ≤ 1000000 := by
   intro p hp
   obtain ⟨j, hj, rfl⟩ := List.mem_iff_getElem.1 hp
   have := len_le_tot hj
   omega
 refine s_skip1 ?_
 simp +decide only [pqn]
 refine s_reg ?_
 simp only [o_pure, o_callF, POp.ev, Opd.ev, gv, setD, List.map, xsj, xel, load3 hbp]
 refine (szBox_ok lim _ k L U z H1 (by omega) ⟨_, _, rfl, hls1, hus1⟩ hL hU (by omega) (by omega)).mono ?_
 rintro _ H2 ⟨⟨z2, rfl, hz2⟩, hx2⟩
 simp only [o_cont, o_pure, o_nil, POp.ev, Opd.ev, gv, setD, List.set, xsj, xel]
 refine s_test ?_
 simp only [o_pure, o_nil, POp.ev, Opd.ev, gv, setD, xsj, xel, binV, ne_eq, xnt, if_false]
 refine Test.split (fun h => ?_) (fun h => ?_)
 · refine s_reg ?_
   simp only [o_pure, o_nil, POp.ev, Opd.ev, setD, List.set, xsj, xel]
   refine s_ret1 ?_
   simp +decide only [p_seq_ret, pfr, resV, resOne, gv, xsj, xel]
 have hsz2 := hz2 (by simpa using h)
 clear hz2 h hL hU
 have hL : L.length ≤ 1000000 := by omega
 have hU : U.length ≤ 1000000 := by omega
 refine s_skip1 ?_
 simp +decide only [pqn]
 have keep : ∀ G, Ext H1 G → SlSS G s ss ∧ SlI G ls L ∧ SlI G us U ∧ G.blk q = some [.int .i64 k, ls, us] ∧ lim ≤ G.next ∧ q < G.next := fun G hg => by
   have := hg.next
   exact ⟨hs1.ext hg, SlI.ext hls1 hg, SlI.ext hus1 hg, by rw [hg.blk _ hbl]; exact hbp, by omega, by omega⟩
 generalize hR : lmR ss k L U = R
 have hne : ∀ b : Bool, (!(b == b)) = false := by decide
 -- the reference on copies
 obtain ⟨ks, kl, ku, kb, kn, kq⟩ := keep _ hx2
 refine s_reg ?_
 simp only [o_pure, o_callN, POp.ev, Opd.ev, gv, setD, List.map, xsj, xel, load3 kb]
 refine (toTermSS_ok _ _ _ false _ (Nat.le_refl _) ks hn hn2).use ?_
 rintro a1 HA ⟨hA, hxA⟩ _
 obtain ⟨ks, kl, ku, kb, kn, kq⟩ := keep _ ((hx2).trans hxA)
 simp only [o_cont, o_callF, Opd.ev, gv, setD, List.map]
 refine (toBox_ok lim _ k L U false HA kn ⟨_, _, rfl, kl, ku⟩ hL hU).mono ?_
 rintro _ HB ⟨bs, bt, bb, bc, rfl, _, _, _, hb1, hb2, hxB⟩
 simp only [o_cont, o_callF, Opd.ev, gv, setD, List.map]
 obtain ⟨_, _, _, _, kn, kq⟩ := keep _ (((hx2).trans hxA).trans hxB)
 refine (sLeast_ok lim _ _ ss k L U HB kn (hA.ext hxB).slss ⟨_, _, rfl, hb1.sl, hb2.sl⟩ hn hn2 hL hU).mono ?_
 rintro _ G1 ⟨rfl, hxG1'⟩
 rw [hR]
 have hxG1 := (((hx2).trans hxA).trans hxB).trans hxG1'
 simp only [o_cont, o_pure, o_nil, POp.ev, Opd.ev, gv, setD, List.set, xsj, xel, extV, List.getElem?_toArray, List.getElem?_cons_zero, List.getElem?_cons_succ]
 -- the program on its own copies
 obtain ⟨ks, kl, ku, kb, kn, kq⟩ := keep _ hxG1
 refine s_reg ?_
 simp only [o_pure, o_callF, POp.ev, Opd.ev, gv, setD, List.map, xsj, xel]
 refine (toTermSS_ok lim _ _ false _ kn ks hn hn2).mono ?_
 rintro x G2 ⟨hX, hxG2'⟩
 rcases hX with ⟨h0, _⟩ | ⟨xb, xvs, xfs, xbs, hX⟩
 · cases h0
 simp only [o_cont, o_pure, o_nil, POp.ev, Opd.ev, gv, setD, List.set, xsj, xel]
 have hxG2 := hxG1.trans hxG2'
 clear hxG2'
 obtain ⟨ks, kl, ku, kb, kn, kq⟩ := keep _ hxG2
 refine s_reg ?_
 simp only [o_pure, o_callF, POp.ev, Opd.ev, gv, setD, List.map, xsj, xel, load3 kb]
 refine (toBox_ok lim _ k L U false _ kn ⟨_, _, rfl, kl, ku⟩ hL hU).mono ?_
 rintro _ G3 ⟨bs, bt, bb, bc, rfl, _, _, _, hb1, hb2, hxG3'⟩
 rcases hb1 with ⟨h0, _⟩ | hb1
 · cases h0
 rcases hb2 with ⟨h0, _⟩ | hb2
 · cases h0
 replace hX := hX.ext hxG3'
 have hxG3 := hxG2.trans hxG3'
 clear hxG3'
 obtain ⟨ks, kl, ku, kb, kn, kq⟩ := keep _ hxG3
 simp only [o_cont, o_eff, o_nil, Opd.ev, EOp.ev, gv, setD, List.set, xsj, xel, store3_new (lim := lim) (H := G3) kn]
 have hxa := Ext.alloc G3 [.int .i64 k, bs, bt]
 have hp : (G3.alloc [.int .i64 k, bs, bt]).blk G3.next = some [.int .i64 k, bs, bt] := alloc_new _ _
 have hpl : G3.next < (G3.alloc [.int .i64 k, bs, bt]).next := Nat.lt_succ_self _
 generalize G3.alloc [.int .i64 k, bs, bt] = G4 at hxa hp hpl ⊢
 generalize G3.next = pp at hp hpl ⊢
 replace hX := hX.ext hxa
 replace hb1 := hb1.ext hxa
 replace hb2 := hb2.ext hxa
 have hxG4 := hxG3.trans hxa
 clear hxa
 have step : ∀ G, Ext G4 G → LaidX G G1.next G2.next xb xvs xfs xbs x ss false ∧ Laid G bb bs L ∧ Laid G bc bt U ∧ G.blk pp = some [.int .i64 k, bs, bt] := fun G hg => ⟨hX.ext hg, hb1.ext hg, hb2.ext hg, by rw [hg.blk _ hpl]; exact hp⟩
 obtain ⟨_, _, _, _, kn, _⟩ := keep _ hxG4
 refine s_reg ?_
 simp only [o_pure, o_callF, POp.ev, Opd.ev, gv, setD, List.map, xsj, xel, load3 hp]
 refine (iLeast_ok lim _ _ ss k L U G4 kn hX.slss ⟨_, _, rfl, hb1.vec.sl, hb2.vec.sl⟩ hn hn2 hL hU).mono ?_
 rintro _ J1 ⟨rfl, hj1⟩
 rw [hR]
 have hxJ1 := hxG4.trans hj1
 simp only [o_cont, o_pure, o_nil, POp.ev, Opd.ev, gv, setD, List.set, xsj, xel, extV, List.getElem?_toArray, List.getElem?_cons_zero, List.getElem?_cons_succ]
 -- both answers are the same
 refine s_test_I false (Ext J1) ?_ (fun J2 hj2 hg0 => by cases hg0) (fun J2 hj2 _ => ?_)
 · have hne1 : (R.1 != R.1) = false := by simp
   simp only [o_pure, o_guard, gk_ff, o_nil, POp.ev, Opd.ev, gv, setD, xsj, xel, pickV, binV, boolEq, ne_eq, xnt, if_false, if_true, beq_self_eq_true, Bool.not_true, hne1]
   exact ⟨trivial, trivial, Ext.refl _⟩
 refine s_skip1 ?_
 simp +decide only [pqn]
 have hxJ2 := hxJ1.trans hj2
 have hj02 := hj1.trans hj2
 -- the system is as it was
 refine s_test_I false (Ext J2) ?_ (fun J3 hj3 hg0 => by cases hg0) (fun J3 hj3 _ => ?_)
 · obtain ⟨ks, kl, ku, kb, kn, kq⟩ := keep _ hxJ2
   simp only [o_pure, o_callF, POp.ev, Opd.ev, gv, setD, List.map, xsj, xel]
   refine (toTermSS_ok lim _ _ false _ kn ks hn hn2).mono ?_
   rintro y J ⟨hY, hyx⟩
   rcases hY with ⟨h0, _⟩ | ⟨yb, yvs, yfs, ybs, hY⟩
   · cases h0
   simp only [o_cont, o_callF, Opd.ev, gv, setD, List.map]
   refine (intactTermSS_ok lim _ _ _ _ _ _ _ _ _ _ _ _ _ _ _ _ (step _ (hj02.trans hyx)).1 hY hn hn2).mono ?_
   rintro _ J' ⟨rfl, hyx'⟩
   simp only [o_cont, o_pure, o_nil, POp.ev, Opd.ev, gv, setD, xsj, xel, unV, Bool.not_true]
   exact ⟨trivial, trivial, hyx.trans hyx'⟩
 refine s_skip1 ?_
 simp +decide only [pqn]
 have hxJ3 := hxJ2.trans hj3
 have hj03 := hj02.trans hj3
 -- the box is as it was
 refine s_test_I false (Ext J3) ?_ (fun J4 hj4 hg0 => by cases hg0) (fun J4 hj4 _ => ?_)
 · obtain ⟨ks, kl, ku, kb, kn, kq⟩ := keep _ hxJ3
   obtain ⟨_, _, _, t4⟩ := step _ hj03
   simp only [o_pure, o_callN, POp.ev, Opd.ev, gv, setD, List.map, xsj, xel, load3 t4, load3 kb]
   refine (toBox_ok _ _ k L U false J3 (Nat.le_refl _) ⟨_, _, rfl, kl, ku⟩ hL hU).use ?_
   rintro _ J ⟨es, et, eb, ec, rfl, _, _, _, he1, he2, hyx⟩ _
   rcases he1 with ⟨h0, _⟩ | he1
   · cases h0
   rcases he2 with ⟨h0, _⟩ | he2
   · cases h0
   obtain ⟨_, _, _, _, kn, _⟩ := keep _ (hxJ3.trans hyx)
   obtain ⟨_, t2, t3, _⟩ := step _ (hj03.trans hyx)
   simp only [o_cont, o_callF, Opd.ev, gv, setD, List.map]
   refine (intactBox_ok lim k L U bb bc eb ec bs bt es et J kn t2 t3 he1 he2 hL hU).mono ?_
   rintro _ J' ⟨rfl, hyx'⟩
   simp only [o_cont, o_pure, o_nil, POp.ev, Opd.ev, gv, setD, xsj, xel, unV, Bool.not_true]
   exact ⟨trivial, trivial, hyx.trans hyx'⟩
 refine s_skip1 ?_
 simp +decide only [pqn]
 have hxJ4 := hxJ3.trans hj4
 have hj04 := hj03.trans hj4
 -- a second answer, on copies without room
 obtain ⟨ks, kl, ku, kb, kn, kq⟩ := keep _ hxJ4
 refine s_reg ?_
 simp only [o_pure, o_callN, POp.ev, Opd.ev, gv, setD, List.map, xsj, xel, load3 kb]
 refine (toTermSS_ok _ _ _ true _ (Nat.le_refl _) ks hn hn2).use ?_
 rintro a1 HA ⟨hA, hxA⟩ _
 obtain ⟨ks, kl, ku, kb, kn, kq⟩ := keep _ ((hxJ4).trans hxA)
 simp only [o_cont, o_callF, Opd.ev, gv, setD, List.map]
 refine (toBox_ok lim _ k L U true HA kn ⟨_, _, rfl, kl, ku⟩ hL hU).mono ?_
 rintro _ HB ⟨bs, bt, bb, bc, rfl, _, _, _, hb1, hb2, hxB⟩
 simp only [o_cont, o_callF, Opd.ev, gv, setD, List.map]
 obtain ⟨_, _, _, _, kn, kq⟩ := keep _ (((hxJ4).trans hxA).trans hxB)
 refine (iLeast_ok lim _ _ ss k L U HB kn (hA.ext hxB).slss ⟨_, _, rfl, hb1.sl, hb2.sl⟩ hn hn2 hL hU).mono ?_
 rintro _ K1 ⟨rfl, hxK1'⟩
 rw [hR]
 have hxK1 := (((hxJ4).trans hxA).trans hxB).trans hxK1'
 simp only [o_cont, o_pure, o_nil, POp.ev, Opd.ev, gv, setD, List.set, xsj, xel, extV, List.getElem?_toArray, List.getElem?_cons_zero, List.getElem?_cons_succ]
 refine s_test_I false (Ext K1) ?_ (fun K2 hk2 hg0 => by cases hg0) (fun K2 hk2 _ => ?_)
 · have hne1 : (R.1 != R.1) = false := by simp
   simp only [o_pure, o_guard, gk_ff, o_nil, POp.ev, Opd.ev, gv, setD, xsj, xel, pickV, binV, boolEq, ne_eq, xnt, if_false, if_true, beq_self_eq_true, Bool.not_true, hne1]
   exact ⟨trivial, trivial, Ext.refl _⟩
 refine s_skip1 ?_
 simp +decide only [pqn]
 refine s_reg ?_
 simp only [o_pure, o_nil, POp.ev, Opd.ev, setD, List.set, xsj, xel]
 refine s_ret1 ?_
 simp +decide only [pfr, resV, resOne, gv, xsj, xel]
end Go.Proofs.YtagocdkcnajiiaaGreat
