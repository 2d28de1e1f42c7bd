/- Parts of the proof of a statement of this seat: contracts of functions that the law calls, or the law's own row; no condition. -/
import Derived.Test.YtagocdkcnajiiaaGreatM9
/- The parts that pass Miranda's condition: the reference; no condition beyond stated ranges. -/
namespace Go.Proofs.YtagocdkcnajiiaaGreat
open Go.Ab Ints
set_option linter.unusedSimpArgs false
set_option linter.unusedVariables false
abbrev Bx3 := Nat × List Int × List Int
def pB (ss : List (List Tm)) (n : Nat) (x : Bx3) : Bool := decide (0 < (passing x.1 ss x.2.1 x.2.2 n).length)
def idxO (ss : List (List Tm)) (n : Nat) (D : List Bx3) (m : Nat) : List Nat := (List.range m).filter fun i => (D[i]?).any (pB ss n)
theorem idxO_succ {ss : List (List Tm)} {n : Nat} {D : List Bx3} {m : Nat} (h : m < D.length) : idxO ss n D (m + 1) = idxO ss n D m ++ if pB ss n D[m] then [m] else [] := by
 unfold idxO
 rw [List.range_succ, List.filter_append]
 congr 1
 rw [List.filter_cons, List.getElem?_eq_getElem h]
 simp
theorem idxO_len (ss : List (List Tm)) (n : Nat) (D : List Bx3) (m : Nat) : (idxO ss n D m).length ≤ m := by
 have := List.length_filter_le (fun i => (D[i]?).any (pB ss n)) (List.range m)
 rw [List.length_range] at this
 exact this
def miR (ss : List (List Tm)) (n : Nat) (D : List Bx3) : Option (List Nat) := if D.all (fun x => decide (x.1 ≤ 4)) then some (idxO ss n D D.length) else none
def PartD (K t n : Nat) (L U : List Int) : List Bx3 := (gridI (2 ^ t) n).map (boxI K t L U)
theorem miR_no {ss : List (List Tm)} {n : Nat} {D : List Bx3} {m : Nat} (h : m < D.length) (hk : 4 < D[m].1) : miR ss n D = none := by
 unfold miR
 rw [if_neg]
 intro h0
 rw [List.all_eq_true] at h0
 have := of_decide_eq_true (h0 _ (List.getElem_mem h))
 omega
theorem miR_yes {ss : List (List Tm)} {n : Nat} {D : List Bx3} (h : ∀ x ∈ D, x.1 ≤ 4) : miR ss n D = some (idxO ss n D D.length) := by
 unfold miR
 rw [if_pos]
 rw [List.all_eq_true]
 exact fun x hx => decide_eq_true (h x hx)
theorem partD_len {K t n : Nat} {L U : List Int} (hn : n ≤ 3) (ht : t ≤ 2) : (PartD K t n L U).length ≤ 64 := by
 have := (grid_facts ⟨n, by omega⟩ ⟨t, by omega⟩).1
 simpa [PartD] using this
theorem part_crs {ss : List (List Tm)} {K t n : Nat} {L U : List Int} (hg : goodB K L U = true) (hK : K ≤ 4) (ht : t ≤ 2) (hL : L.length = n) (hss : goodSS ss = true) (hn : ss.length = n) {x : Bx3} (hx : x ∈ PartD K t n L U) (h4 : x.1 ≤ 4) : Crs x.1 n x.2.1 x.2.2 := by
 obtain ⟨_, _, q3, q4, q5, _, _⟩ := goodB_small hg
 have hr : rngB (8 * 2 ^ K) L U = true := by
   simp only [goodB, Bool.and_eq_true] at hg
   simpa using hg.1.2
 obtain ⟨v, hv, rfl⟩ := List.mem_map.1 hx
 obtain ⟨fv, fi⟩ := (grid_facts ⟨n, by omega⟩ ⟨t, by omega⟩).2 v hv
 obtain ⟨g1, g2⟩ := box_good (t := t) hL (by omega) (by omega) (by omega) (by omega) hr fv fi
 have ha : askB ss (boxI K t L U v).1 (boxI K t L U v).2.1 (boxI K t L U v).2.2 = true := by
   simp only [askB, hss, g1, Bool.true_and, Bool.and_eq_true, decide_eq_true_eq, beq_iff_eq]
   omega
 obtain ⟨kn, n', e1, e2, e3, _⟩ := askB_crs ha
 have : kn = (boxI K t L U v).1 := by omega
 subst this
 have : n' = n := by omega
 subst this
 exact e3
theorem bxs_get {l : List BX} {i : Nat} {x : BX} (h : l[i]? = some x) : (bxs l)[i * 3]? = some (.int .i64 x.k) ∧ (bxs l)[i * 3 + 1]? = some x.s ∧ (bxs l)[i * 3 + 2]? = some x.t := by
 have e := bxs_at h
 have g : ∀ j, j < 3 → (bxs l)[i * 3 + j]? = (bxc x)[j]? := by
   intro j hj
   rw [← e, List.getElem?_take_of_lt hj, List.getElem?_drop]
 exact ⟨g 0 (by omega), g 1 (by omega), g 2 (by omega)⟩
theorem GrowB.boxQ {H : AHeap} {lo b : Nat} {P : Nat → Prop} {v : Value} {es : List BX} (h : GrowB H lo P b v es) {i : Nat} (hi : i < es.length) :
   iadV 3 v (.int .i64 i) = some (.pointer (some ⟨b, i * 3, none⟩)) ∧ b < H.next ∧ BoxQ H b (i * 3) es[i].k es[i].s es[i].t es[i].lo es[i].hi := by
 obtain ⟨g1, g2, g3⟩ := bxs_get (List.getElem?_eq_getElem hi)
 obtain ⟨c, d, k1, k2, _⟩ := h.el _ (List.getElem_mem hi)
 refine ⟨Vec.iad h.vec .i64 hi, ?_, Vec.cell h.vec g1, Vec.cell h.vec g2, Vec.cell h.vec g3, Vec.sl k1, Vec.sl k2⟩
 rcases h.st with ⟨_, h⟩ | h
 · subst h; simp at hi
 · exact h
theorem sPartsNo_ok (lim : Nat) (v : Value) (K : Int) (times : Int) (L U : List Int) (H : AHeap) (hl : lim ≤ H.next) (hv : BoxV H v K L U) (hL : L.length ≤ 1000000) (hU : U.length ≤ 1000000) (hno : (decide (0 ≤ times) && decide (times ≤ 2)) = false) :
   ACalls Tryz.prog lim n_spec_PartsOf [v, .int .i64 times] H fun v H' => v = .tuple #[.slice none 0 0, .bool false] ∧ Ext H H' := by
 obtain ⟨s, u, rfl, hs, hu⟩ := hv
 refine is_spec_PartsOf.go rfl ?_
 unfold c_spec_PartsOf
 refine s_reg ?_
 simp only [o_pure, o_eff, o_nil, POp.ev, Opd.ev, EOp.ev, env0, gu, gv, setD, List.set, xms, xsj, xel, boxH, cellsV]
 have hx := Ext.alloc H [.int .i64 (K : Int), s, u]
 have hbp : (H.alloc [.int .i64 (K : Int), s, u]).blk H.next = some [.int .i64 (K : Int), s, u] := alloc_new _ _
 generalize H.alloc [.int .i64 (K : Int), s, u] = H1 at hx hbp ⊢
 have hn1 := hx.next
 refine s_test_I true (Ext H1) ?_ (fun H2 hx2 _ => ?_) (fun H2 hx2 hg => by cases hg)
 · simp only [o_pure, o_callF, POp.ev, Opd.ev, gv, setD, List.map, xsj, xel, load3 hbp]
   refine (Ints.bxGood_ok lim _ K L U H1 (by omega) ⟨s, u, rfl, SlI.ext hs hx, SlI.ext hu hx⟩ (by omega) (by omega)).mono ?_
   rintro _ H2 ⟨rfl, hx2⟩
   cases hgb : goodB K L U
   · simp only [o_cont, o_pure, o_guard, gk_tf, o_nil, POp.ev, Opd.ev, gv, setD, xsj, xel, pickV, unV, Bool.not_false]
     exact ⟨trivial, trivial, hx2⟩
   · simp only [o_cont, o_pure, o_callF, o_guard, gk_ff, POp.ev, Opd.ev, gv, setD, List.map, xsj, xel, unV, Bool.not_true]
     refine (Ints.l1In_ok _ _ _ _ _).eq ?_
     rw [hno]
     simp only [o_cont, o_pure, o_guard, gk_ff, o_nil, POp.ev, Opd.ev, gv, setD, xsj, xel, pickV, unV, Bool.not_false]
     exact ⟨trivial, trivial, hx2⟩
 · refine s_reg ?_
   simp only [o_pure, o_nil, POp.ev, Opd.ev, setD, List.set, xsj, xel]
   refine s_ret1 ?_
   simp +decide only [pqr, pfr, resV, resOne, resL, gv, xsj, xel, Option.bind_some, xms]
   exact ⟨trivial, hx.trans hx2⟩
theorem sMi_ok (lim : Nat) (s v : Value) (ss : List (List Tm)) (K t n : Nat) (L U : List Int) (H : AHeap) (hl : lim ≤ H.next) (hs : SlSS H s ss) (hv : BoxV H v K L U) (hg : goodB K L U = true) (hK : K ≤ 4) (ht : t ≤ 2) (hL : L.length = n) (hss : goodSS ss = true) (hn : ss.length = n) :
   ACalls Tryz.prog lim n_spec_miParts [s, v, .int .i64 t] H fun v H' => ResIL H' H.next v (miR ss n (PartD K t n L U)) ∧ Ext H H' := by
 have hpc := fun (x : Bx3) hx h4 => part_crs (x := x) (t := t) hg hK ht hL hss hn hx h4
 obtain ⟨_, _, q3, q4, q5, _, _⟩ := goodB_small hg
 have hDl := partD_len (K := K) (t := t) (n := n) (L := L) (U := U) (by omega) ht
 have hpp := goodSS_pol hss
 obtain ⟨ls, us, rfl, hls, hus⟩ := hv
 refine is_spec_miParts.go rfl ?_
 unfold c_spec_miParts
 refine s_reg ?_
 simp only [o_pure, o_eff, o_nil, POp.ev, Opd.ev, EOp.ev, env0, gu, gv, setD, List.set, xms, xsj, xel, boxH, cellsV]
 have hx := Ext.alloc H [.int .i64 (K : Int), ls, us]
 have hbp : (H.alloc [.int .i64 (K : Int), ls, us]).blk H.next = some [.int .i64 (K : Int), ls, us] := alloc_new _ _
 generalize H.alloc [.int .i64 (K : Int), ls, us] = H1 at hx hbp ⊢
 have hn1 := hx.next
 refine s_reg ?_
 simp only [o_pure, o_callF, POp.ev, Opd.ev, gv, setD, List.map, xsj, xel, load3 hbp]
 refine (sParts_ok lim _ K t n L U H1 (by omega) ⟨ls, us, rfl, SlI.ext hls hx, SlI.ext hus hx⟩ hg hK ht hL).mono ?_
 rintro _ H2 ⟨⟨pv, es, b, rfl, hD, hG⟩, hx2⟩
 have hn2 := hx2.next
 have hD : es.map dat = PartD K t n L U := hD
 generalize PartD K t n L U = D at hD hpc hDl ⊢
 have hlen : es.length = D.length := by have := congrArg List.length hD; simpa using this
 simp only [o_cont, o_pure, o_nil, POp.ev, Opd.ev, gv, setD, List.set, xsj, xel, extV, List.getElem?_toArray, xgz, xgs]
 refine s_test ?_
 simp only [o_pure, o_nil, POp.ev, Opd.ev, gv, setD, xsj, xel, unV, Bool.not_true]
 refine Test.false_ (s_skip1 ?_)
 simp +decide only [pqn]
 refine s_reg ?_
 simp only [o_pure, o_nil, POp.ev, Opd.ev, setD, List.set, xsj, xel]
 refine s_assoc (s_reg ?_)
 simp only [o_pure, o_nil, POp.ev, Opd.ev, gv, setD, List.set, xsj, xel, hG.slb.lenV]
 refine s_block ?_
 refine s_loop1 (fun j e' H' => ∃ (m b8 : Nat) (out x9 x10 : Value), m + j = es.length ∧ VecI H' b8 out (zl (idxO ss n D m)) ∧ H2.next ≤ b8 ∧ (b8 < H'.next ∨ (out = .slice none 0 0 ∧ zl (idxO ss n D m) = [])) ∧ (∀ x ∈ D.take m, x.1 ≤ 4) ∧ Ext H2 H' ∧ e' = [s, .agg #[.int .i64 (K : Int), ls, us], .int .i64 t, .pointer (some ⟨H.next, 0, none⟩), .slice none 0 0, .bool false, pv, .bool true, out, x9, x10, pv, .int .i64 es.length, .int .i64 m]) es.length ⟨0, H2.next, .slice none 0 0, _, _, by omega, Vec.nil _ _ _, Nat.le_refl _, .inr ⟨rfl, rfl⟩, by simp, Ext.refl _, rfl⟩ ?_
 rintro j e' H3 ⟨m, b8, out, x9, x10, hmj, hv8, hb8, hst8, h4, hx3, rfl⟩
 have hn3 := hx3.next
 refine s_test ?_
 simp only [o_pure, o_nil, POp.ev, Opd.ev, gv, setD, xsj, xel, binV, ne_eq, xnt, if_false]
 refine Test.split (fun hlt => ?_) (fun hlt => ?_)
 · have hm : m < es.length := by have := of_decide_eq_true hlt; omega
   have hmD : m < D.length := by omega
   obtain ⟨o1, o2, u1, u2⟩ := hG.slb.at hm
   have hdx := map_get hD hm hmD
   have hids := idxO_succ (ss := ss) (n := n) hmD
   have hidl := idxO_len ss n D m
   have hno := miR_no (ss := ss) (n := n) hmD
   have hpc' := hpc D[m] (List.getElem_mem hmD)
   have h4' : D[m].1 ≤ 4 → ∀ x ∈ D.take (m + 1), x.1 ≤ 4 := by
     intro h x hx
     rw [List.take_succ_eq_append_getElem hmD] at hx
     rcases List.mem_append.1 hx with hx | hx
     · exact h4 x hx
     · rw [List.mem_singleton] at hx
       rw [hx]; exact h
   obtain ⟨c, d, g1, g2, _⟩ := hG.el _ (List.getElem_mem hm)
   generalize D[m] = dm at *
   generalize es[m] = x at *
   obtain ⟨xk, xs, xt, xlo, xhi⟩ := x
   obtain rfl : (xk, xlo, xhi) = dm := hdx
   refine s_skip1 ?_
   simp +decide only [pqn]
   refine s_block1 ?_
   refine s_reg ?_
   have hst : storeH lim (H3.alloc [.int .i64 0, .slice none 0 0, .slice none 0 0]) 3 (.pointer (some ⟨H3.next, 0, none⟩)) (bxv ⟨xk, xs, xt, xlo, xhi⟩) = some (undef, H3.alloc [.int .i64 xk, xs, xt]) := store3_new (by omega)
   simp only [o_pure, o_eff, o_nil, POp.ev, Opd.ev, EOp.ev, gv, setD, List.set, xsj, xel, u1, u2 H3 hx3, hst]
   have hx4 := Ext.alloc H3 [.int .i64 (xk : Int), xs, xt]
   have hb4 : (H3.alloc [.int .i64 (xk : Int), xs, xt]).blk H3.next = some [.int .i64 (xk : Int), xs, xt] := alloc_new _ _
   generalize H3.alloc [.int .i64 (xk : Int), xs, xt] = H4 at hx4 hb4 ⊢
   have hn4 := hx4.next
   refine s_test ?_
   simp only [o_pure, o_nil, POp.ev, Opd.ev, gv, setD, xsj, xel, binV, load1V, fadV, ne_eq, xnt, if_false, xgz, Nat.zero_add, cell_blk hb4]
   refine Test.split (fun hlt2 => ?_) (fun hlt2 => ?_)
   · have hk : 4 < xk := by have := of_decide_eq_true hlt2; omega
     refine s_reg ?_
     simp only [o_pure, o_nil, POp.ev, Opd.ev, setD, List.set, xsj, xel]
     refine s_ret1 ?_
     simp +decide only [pqr, pbr, pfr, resV, resOne, resL, gv, xsj, xel, Option.bind_some, xms]
     rw [hno hk]
     exact ⟨⟨_, rfl, .inl ⟨rfl, rfl⟩⟩, ((hx.trans hx2).trans hx3).trans hx4⟩
   · have hk : xk ≤ 4 := by have := of_decide_eq_false hlt2; omega
     have hc := hpc' hk
     refine s_skip1 ?_
     simp +decide only [pqn]
     have hx24 := hx3.trans hx4
     have hx04 := (hx.trans hx2).trans hx24
     have hl6 := passing_len (k := xk) (ss := ss) (L := xlo) (U := xhi) hc.n3
     have hcall : ACalls Tryz.prog lim n_spec_miAll [s, .agg #[.int .i64 (xk : Int), xs, xt]] H4 _ := miAll_ok lim s _ ss xlo xhi xk n H4 (by omega) (hs.ext hx04) ⟨xs, xt, rfl, SlI.ext (Vec.sl g1) hx24, SlI.ext (Vec.sl g2) hx24⟩ hc (fun p hp => (hpp p hp).1) hn
     refine s_test1 ?_
     simp only [o_pure, o_callF, POp.ev, Opd.ev, gv, setD, List.map, xsj, xel, load3 hb4]
     refine hcall.mono ?_
     rintro w H5 ⟨hw, hx5⟩
     simp only [o_cont, o_pure, o_nil, POp.ev, Opd.ev, gv, setD, xsj, xel, binV, ne_eq, xnt, if_false, hw.slss.lenV]
     refine Test.split (fun hlt3 => ?_) (fun hlt3 => ?_)
     · have hp : pB ss n (xk, xlo, xhi) = true := by
         have := of_decide_eq_true hlt3
         rw [List.length_map] at this
         exact decide_eq_true (by simp only; omega)
       have hn5 := hx5.next
       rw [hp, if_pos rfl] at hids
       obtain ⟨v', H6, b', e1, e2, e3, e4, e5, e6⟩ := push1 (lim := lim) (bytes := 8) (hv8.ext (hx4.trans hx5)) (vi (m : Int)) (by omega) (by rw [zl_length]; omega)
       refine s_reg1 ?_
       simp only [o_pure, o_eff, o_nil, POp.ev, Opd.ev, EOp.ev, gv, setD, List.set, List.map, xsj, xel, bsliceV _ (.int .i64 0) (x := .int .i64 (m : Int)) rfl, e1]
       simp +decide only [pqn, pbn]
       refine s_reg1 ?_
       simp only [o_pure, o_nil, POp.ev, Opd.ev, gv, setD, List.set, xsj, xel, binV, ne_eq, xnt, if_false, add1 (i := m) (by omega)]
       simp +decide only [pqn]
       refine Round.mk (j - 1) (by omega) ⟨m + 1, b', v', _, _, by omega, ?_, by rcases e3 with h | h <;> omega, .inl e4, h4' hk, Chg.ext (hx24.trans hx5) e5 hb8, rfl⟩
       rw [hids, zl_snoc]
       exact VecI.snoc e2
     · have hp : pB ss n (xk, xlo, xhi) = false := by
         have := of_decide_eq_false hlt3
         rw [List.length_map] at this
         exact decide_eq_false (by simp only; omega)
       rw [hp, if_neg (by decide), List.append_nil] at hids
       refine s_skip1 ?_
       simp +decide only [pqn, pbn]
       refine s_reg1 ?_
       simp only [o_pure, o_nil, POp.ev, Opd.ev, gv, setD, List.set, xsj, xel, binV, ne_eq, xnt, if_false, add1 (i := m) (by omega)]
       simp +decide only [pqn]
       have hn5 := hx5.next
       refine Round.mk (j - 1) (by omega) ⟨m + 1, b8, out, _, _, by omega, by rw [hids]; exact hv8.ext (hx4.trans hx5), hb8, by rw [hids]; exact hst8.imp (fun h => by omega) id, h4' hk, hx24.trans hx5, rfl⟩
 · have hm : m = es.length := by have := of_decide_eq_false hlt; omega
   subst hm
   refine s_exit1 ?_
   simp +decide only [pqn, pqe, pbe, reduceIte]
   rw [hlen] at hv8 hst8 h4
   rw [List.take_length] at h4
   refine s_reg ?_
   simp only [o_pure, o_nil, POp.ev, Opd.ev, gv, setD, List.set, xsj, xel]
   refine s_ret1 ?_
   simp +decide only [pfr, resV, resOne, resL, gv, xsj, xel, Option.bind_some, xms]
   rw [miR_yes h4]
   refine ⟨⟨_, rfl, ?_⟩, (hx.trans hx2).trans hx3⟩
   rcases hst8 with h | h
   · exact .inr ⟨b8, by omega, h, hv8⟩
   · exact .inl h
theorem iMi_ok (lim : Nat) (s bl bu : Value) (ss : List (List Tm)) (q K t n : Nat) (L U : List Int) (H : AHeap) (hl : lim ≤ H.next) (hs : SlSS H s ss) (hv : BoxP H q K bl bu L U) (hq : q < H.next) (hg : goodB K L U = true) (hK : K ≤ 4) (ht : t ≤ 2) (hL : L.length = n) (hss : goodSS ss = true) (hn : ss.length = n) :
   ACalls Tryz.prog lim n_impl_mirandaParts [s, .pointer (some ⟨q, 0, none⟩), .int .i64 t] H fun v H' => ResIL H' H.next v (miR ss n (PartD K t n L U)) ∧ Ext H H' := by
 have hpc := fun (x : Bx3) hx h4 => part_crs (x := x) (t := t) hg hK ht hL hss hn hx h4
 obtain ⟨_, _, q3, q4, q5, _, _⟩ := goodB_small hg
 have hDl := partD_len (K := K) (t := t) (n := n) (L := L) (U := U) (by omega) ht
 have hpp := goodSS_pol hss
 refine is_impl_mirandaParts.go rfl ?_
 unfold c_impl_mirandaParts
 refine s_reg ?_
 simp only [o_pure, o_nil, POp.ev, Opd.ev, env0, gu, setD, List.set, xsj, xel]
 refine s_reg ?_
 simp only [o_pure, o_callF, POp.ev, Opd.ev, gv, setD, List.map, xsj, xel]
 refine (iParts_ok lim q K t n bl bu L U H hl hv hq hg hK ht hL).mono ?_
 rintro _ H2 ⟨⟨pv, es, b, rfl, hD, hG⟩, hx2⟩
 have hn2 := hx2.next
 have hD : es.map dat = PartD K t n L U := hD
 generalize PartD K t n L U = D at hD hpc hDl ⊢
 have hlen : es.length = D.length := by have := congrArg List.length hD; simpa using this
 simp only [o_cont, o_pure, o_nil, POp.ev, Opd.ev, gv, setD, List.set, xsj, xel, extV, List.getElem?_toArray, xgz, xgs]
 refine s_test ?_
 simp only [o_pure, o_nil, POp.ev, Opd.ev, gv, setD, xsj, xel, unV, Bool.not_true]
 refine Test.false_ (s_skip1 ?_)
 simp +decide only [pqn]
 refine s_reg ?_
 simp only [o_pure, o_nil, POp.ev, Opd.ev, setD, List.set, xsj, xel]
 refine s_assoc (s_reg ?_)
 simp only [o_pure, o_nil, POp.ev, Opd.ev, gv, setD, List.set, xsj, xel, hG.slb.lenV]
 refine s_block ?_
 refine s_loop1 (fun j e' H' => ∃ (m b8 : Nat) (out x8 : Value), m + j = es.length ∧ VecI H' b8 out (zl (idxO ss n D m)) ∧ H2.next ≤ b8 ∧ (b8 < H'.next ∨ (out = .slice none 0 0 ∧ zl (idxO ss n D m) = [])) ∧ (∀ x ∈ D.take m, x.1 ≤ 4) ∧ Ext H2 H' ∧ e' = [s, .pointer (some ⟨q, 0, none⟩), .int .i64 t, .slice none 0 0, .bool false, pv, .bool true, out, x8, .int .i64 es.length, .int .i64 m]) es.length ⟨0, H2.next, .slice none 0 0, _, by omega, Vec.nil _ _ _, Nat.le_refl _, .inr ⟨rfl, rfl⟩, by simp, Ext.refl _, rfl⟩ ?_
 rintro j e' H3 ⟨m, b8, out, x8, hmj, hv8, hb8, hst8, h4, hx3, rfl⟩
 have hn3 := hx3.next
 refine s_test ?_
 simp only [o_pure, o_nil, POp.ev, Opd.ev, gv, setD, xsj, xel, binV, ne_eq, xnt, if_false]
 refine Test.split (fun hlt => ?_) (fun hlt => ?_)
 · have hm : m < es.length := by have := of_decide_eq_true hlt; omega
   have hmD : m < D.length := by omega
   obtain ⟨u1, u2, hbx⟩ := (hG.ext hx3).boxQ hm
   have hdx := map_get hD hm hmD
   have hids := idxO_succ (ss := ss) (n := n) hmD
   have hidl := idxO_len ss n D m
   have hno := miR_no (ss := ss) (n := n) hmD
   have hpc' := hpc D[m] (List.getElem_mem hmD)
   have h4' : D[m].1 ≤ 4 → ∀ x ∈ D.take (m + 1), x.1 ≤ 4 := by
     intro h x hx
     rw [List.take_succ_eq_append_getElem hmD] at hx
     rcases List.mem_append.1 hx with hx | hx
     · exact h4 x hx
     · rw [List.mem_singleton] at hx
       rw [hx]; exact h
   generalize D[m] = dm at *
   generalize es[m] = x at *
   obtain ⟨xk, xs, xt, xlo, xhi⟩ := x
   obtain rfl : (xk, xlo, xhi) = dm := hdx
   simp only at hbx
   refine s_skip1 ?_
   simp +decide only [pqn]
   refine s_block1 ?_
   refine s_reg ?_
   simp only [o_pure, o_nil, POp.ev, Opd.ev, gv, setD, List.set, xsj, xel]
   refine s_test ?_
   simp only [o_pure, o_nil, POp.ev, Opd.ev, gv, setD, xsj, xel, binV, load1V, fadV, ne_eq, xnt, if_false, u1, Nat.add_zero, hbx.c0]
   refine Test.split (fun hlt2 => ?_) (fun hlt2 => ?_)
   · have hk : 4 < xk := by have := of_decide_eq_true hlt2; omega
     refine s_reg ?_
     simp only [o_pure, o_nil, POp.ev, Opd.ev, setD, List.set, xsj, xel]
     refine s_ret1 ?_
     simp +decide only [pqr, pbr, pfr, resV, resOne, resL, gv, xsj, xel, Option.bind_some, xms]
     rw [hno hk]
     exact ⟨⟨_, rfl, .inl ⟨rfl, rfl⟩⟩, hx2.trans hx3⟩
   · have hk : xk ≤ 4 := by have := of_decide_eq_false hlt2; omega
     have hc := hpc' hk
     refine s_skip1 ?_
     simp +decide only [pqn]
     have hx03 := hx2.trans hx3
     have hl6 := passing_len (k := xk) (ss := ss) (L := xlo) (U := xhi) hc.n3
     have hcall : ACalls Tryz.prog lim n_impl_mirandaOrders [s, .pointer (some ⟨b, m * 3, none⟩)] H3 _ := mirandaOrdersQ_ok lim s xs xt ss xlo xhi xk n b H3 (by omega) (hs.ext hx03) hbx u2 hc (fun p hp => by rw [← hn]; exact hpp p hp) hn
     refine s_test1 ?_
     simp only [o_pure, o_callF, POp.ev, Opd.ev, gv, setD, List.map, xsj, xel, u1]
     refine hcall.mono ?_
     rintro w H5 ⟨hw, hx5⟩
     simp only [o_cont, o_pure, o_nil, POp.ev, Opd.ev, gv, setD, xsj, xel, binV, ne_eq, xnt, if_false, hw.slss.lenV]
     refine Test.split (fun hlt3 => ?_) (fun hlt3 => ?_)
     · have hp : pB ss n (xk, xlo, xhi) = true := by
         have := of_decide_eq_true hlt3
         rw [List.length_map] at this
         exact decide_eq_true (by simp only; omega)
       have hn5 := hx5.next
       rw [hp, if_pos rfl] at hids
       obtain ⟨v', H6, b', e1, e2, e3, e4, e5, e6⟩ := push1 (lim := lim) (bytes := 8) (hv8.ext hx5) (vi (m : Int)) (by omega) (by rw [zl_length]; omega)
       refine s_reg1 ?_
       simp only [o_pure, o_eff, o_nil, POp.ev, Opd.ev, EOp.ev, gv, setD, List.set, List.map, xsj, xel, bsliceV _ (.int .i64 0) (x := .int .i64 (m : Int)) rfl, e1]
       simp +decide only [pqn, pbn]
       refine s_reg1 ?_
       simp only [o_pure, o_nil, POp.ev, Opd.ev, gv, setD, List.set, xsj, xel, binV, ne_eq, xnt, if_false, add1 (i := m) (by omega)]
       simp +decide only [pqn]
       refine Round.mk (j - 1) (by omega) ⟨m + 1, b', v', _, by omega, ?_, by rcases e3 with h | h <;> omega, .inl e4, h4' hk, Chg.ext (hx3.trans hx5) e5 hb8, rfl⟩
       rw [hids, zl_snoc]
       exact VecI.snoc e2
     · have hp : pB ss n (xk, xlo, xhi) = false := by
         have := of_decide_eq_false hlt3
         rw [List.length_map] at this
         exact decide_eq_false (by simp only; omega)
       rw [hp, if_neg (by decide), List.append_nil] at hids
       refine s_skip1 ?_
       simp +decide only [pqn, pbn]
       refine s_reg1 ?_
       simp only [o_pure, o_nil, POp.ev, Opd.ev, gv, setD, List.set, xsj, xel, binV, ne_eq, xnt, if_false, add1 (i := m) (by omega)]
       simp +decide only [pqn]
       have hn5 := hx5.next
       refine Round.mk (j - 1) (by omega) ⟨m + 1, b8, out, _, by omega, by rw [hids]; exact hv8.ext hx5, hb8, by rw [hids]; exact hst8.imp (fun h => by omega) id, h4' hk, hx3.trans hx5, rfl⟩
 · have hm : m = es.length := by have := of_decide_eq_false hlt; omega
   subst hm
   refine s_exit1 ?_
   simp +decide only [pqn, pqe, pbe, reduceIte]
   rw [hlen] at hv8 hst8 h4
   rw [List.take_length] at h4
   refine s_reg ?_
   simp only [o_pure, o_nil, POp.ev, Opd.ev, gv, setD, List.set, xsj, xel]
   refine s_ret1 ?_
   simp +decide only [pfr, resV, resOne, resL, gv, xsj, xel, Option.bind_some, xms]
   rw [miR_yes h4]
   refine ⟨⟨_, rfl, ?_⟩, hx2.trans hx3⟩
   rcases hst8 with h | h
   · exact .inr ⟨b8, by omega, h, hv8⟩
   · exact .inl h
theorem askB_all {ss : List (List Tm)} {k : Int} {L U : List Int} (h : askB ss k L U = true) : ∃ K n : Nat, k = K ∧ ss.length = n ∧ L.length = n ∧ goodB (K : Int) L U = true ∧ K ≤ 4 ∧ goodSS ss = true := by
 simp only [askB, Bool.and_eq_true, decide_eq_true_eq] at h
 obtain ⟨⟨⟨h1, h2⟩, h3⟩, h4⟩ := h
 have h4' : ss.length = L.length := by have := h4; simp at this; omega
 obtain ⟨g1, _⟩ := goodB_small h2
 obtain ⟨K, rfl⟩ : ∃ K : Nat, k = K := ⟨k.toNat, by omega⟩
 exact ⟨K, ss.length, rfl, rfl, by omega, h2, by omega, h1⟩
theorem ResIL.low {H : AHeap} {lo lo' : Nat} {v : Value} {r : Option (List Nat)} (h : ResIL H lo v r) (hl : lo' ≤ lo) : ResIL H lo' v r := by
 obtain ⟨x, rfl, g⟩ := h
 refine ⟨x, rfl, ?_⟩
 rcases g with h | ⟨c, c1, c2, c3⟩
 · exact .inl h
 · exact .inr ⟨c, by omega, c2, c3⟩
def in02 (times : Int) : Bool := decide (0 ≤ times) && decide (times ≤ 2)
def mpR (ss : List (List Tm)) (k : Int) (L U : List Int) (times : Int) : Option (List Nat) := if askB ss k L U && in02 times then miR ss ss.length (PartD k.toNat times.toNat ss.length L U) else none
theorem sMiNo_ok (lim : Nat) (s v : Value) (K : Int) (times : Int) (L U : List Int) (H : AHeap) (hl : lim ≤ H.next) (hv : BoxV H v K L U) (hL : L.length ≤ 1000000) (hU : U.length ≤ 1000000) (hno : in02 times = false) :
   ACalls Tryz.prog lim n_spec_miParts [s, v, .int .i64 times] H fun v H' => ResIL H' H.next v none ∧ Ext H H' := by
 obtain ⟨ls, us, rfl, hls, hus⟩ := hv
 refine is_spec_miParts.go rfl ?_
 unfold c_spec_miParts
 refine s_reg ?_
 simp only [o_pure, o_eff, o_nil, POp.ev, Opd.ev, EOp.ev, env0, gu, gv, setD, List.set, xms, xsj, xel, boxH, cellsV]
 have hx := Ext.alloc H [.int .i64 (K : Int), ls, us]
 have hbp : (H.alloc [.int .i64 (K : Int), ls, us]).blk H.next = some [.int .i64 (K : Int), ls, us] := alloc_new _ _
 generalize H.alloc [.int .i64 (K : Int), ls, us] = H1 at hx hbp ⊢
 have hn1 := hx.next
 refine s_reg ?_
 simp only [o_pure, o_callF, POp.ev, Opd.ev, gv, setD, List.map, xsj, xel, load3 hbp]
 refine (sPartsNo_ok lim _ K times L U H1 (by omega) ⟨ls, us, rfl, SlI.ext hls hx, SlI.ext hus hx⟩ hL hU hno).mono ?_
 rintro _ H2 ⟨rfl, hx2⟩
 simp only [o_cont, o_pure, o_nil, POp.ev, Opd.ev, gv, setD, List.set, xsj, xel, extV, List.getElem?_toArray, xgz, xgs]
 refine s_test ?_
 simp only [o_pure, o_nil, POp.ev, Opd.ev, gv, setD, xsj, xel, unV, Bool.not_false]
 refine Test.true_ ?_
 refine s_reg ?_
 simp only [o_pure, o_nil, POp.ev, Opd.ev, setD, List.set, xsj, xel]
 refine s_ret1 ?_
 simp +decide only [pqr, pfr, resV, resOne, resL, gv, xsj, xel, Option.bind_some, xms]
 exact ⟨⟨_, rfl, .inl ⟨rfl, rfl⟩⟩, hx.trans hx2⟩
theorem sMirParts_ok (lim : Nat) (s v : Value) (ss : List (List Tm)) (k : Int) (L U : List Int) (times : Int) (H : AHeap) (hl : lim ≤ H.next) (hs : SlSS H s ss) (hv : BoxV H v k L U) (hn : ss.length ≤ 1000000) (hn2 : ∀ p ∈ ss, p.length ≤ 1000000) (hL : L.length ≤ 1000000) (hU : U.length ≤ 1000000) :
   ACalls Tryz.prog lim n_spec_MirandaParts [s, v, .int .i64 times] H fun v H' => ResIL H' H.next v (mpR ss k L U times) ∧ Ext H H' := by
 obtain ⟨ls, us, rfl, hls, hus⟩ := hv
 refine is_spec_MirandaParts.go rfl ?_
 unfold c_spec_MirandaParts
 refine s_reg ?_
 simp only [o_pure, o_eff, o_nil, POp.ev, Opd.ev, EOp.ev, env0, gu, gv, setD, List.set, xms, xsj, xel, boxH, cellsV]
 have hx := Ext.alloc H [.int .i64 (k : Int), ls, us]
 have hbp : (H.alloc [.int .i64 (k : Int), ls, us]).blk H.next = some [.int .i64 (k : Int), ls, us] := alloc_new _ _
 have hbl : H.next < (H.alloc [.int .i64 k, ls, us]).next := Nat.lt_succ_self _
 generalize H.alloc [.int .i64 (k : Int), ls, us] = H1 at hx hbp hbl ⊢
 have hn1 := hx.next
 refine s_test_I (!askB ss k L U) (Ext H1) ?_ (fun H2 hx2 hg => ?_) (fun H2 hx2 hg => ?_)
 · simp only [o_pure, o_callF, POp.ev, Opd.ev, gv, setD, List.map, xsj, xel, load3 hbp]
   refine (miAsked_ok lim s _ ss k L U H1 (by omega) (hs.ext hx) ⟨_, _, rfl, SlI.ext hls hx, SlI.ext hus hx⟩ hn hn2 hL hU).mono ?_
   rintro _ H2 ⟨rfl, hx2⟩
   simp only [o_cont, o_pure, o_nil, POp.ev, Opd.ev, gv, setD, xsj, xel, unV]
   exact ⟨trivial, trivial, hx2⟩
 · refine s_reg ?_
   simp only [o_pure, o_nil, POp.ev, Opd.ev, setD, List.set, xsj, xel]
   refine s_ret1 ?_
   simp +decide only [pqr, pfr, resV, resOne, resL, gv, xsj, xel, Option.bind_some, xms]
   simp only [Bool.not_eq_true'] at hg
   unfold mpR
   rw [hg]
   exact ⟨⟨_, rfl, .inl ⟨rfl, rfl⟩⟩, hx.trans hx2⟩
 simp only [Bool.not_eq_false'] at hg
 have hn2' := hx2.next
 have hx02 := hx.trans hx2
 have hb2 : H2.blk H.next = some [.int .i64 k, ls, us] := by rw [hx2.blk _ hbl]; exact hbp
 have hfin : ∀ r, r = mpR ss k L U times → ACalls Tryz.prog lim n_spec_miParts [s, .agg #[.int .i64 k, ls, us], .int .i64 times] H2 (fun v H' => ResIL H' H2.next v r ∧ Ext H2 H') → ACalls Tryz.prog lim n_spec_miParts [s, .agg #[.int .i64 k, ls, us], .int .i64 times] H2 fun v H' => ResIL H' H.next v (mpR ss k L U times) ∧ Ext H H' := by
   rintro r rfl h
   exact h.mono fun v H' ⟨h1, h2⟩ => ⟨h1.low (by omega), hx02.trans h2⟩
 have hcall : ACalls Tryz.prog lim n_spec_miParts [s, .agg #[.int .i64 k, ls, us], .int .i64 times] H2 fun v H' => ResIL H' H.next v (mpR ss k L U times) ∧ Ext H H' := by
   cases ht : in02 times with
   | false =>
     refine hfin none (by unfold mpR; rw [hg, ht]; rfl) ?_
     exact sMiNo_ok lim s _ k times L U H2 (by omega) ⟨_, _, rfl, SlI.ext hls hx02, SlI.ext hus hx02⟩ hL hU ht
   | true =>
     obtain ⟨K, n, rfl, e1, e2, e3, e4, e5⟩ := askB_all hg
     have ht' : 0 ≤ times ∧ times ≤ 2 := by simpa [in02] using ht
     obtain ⟨t, rfl⟩ : ∃ t : Nat, times = t := ⟨times.toNat, by omega⟩
     refine hfin (miR ss n (PartD K t n L U)) (by unfold mpR; rw [hg, ht, e1]; rfl) ?_
     exact sMi_ok lim s _ ss K t n L U H2 (by omega) (hs.ext hx02) ⟨_, _, rfl, SlI.ext hls hx02, SlI.ext hus hx02⟩ e3 e4 (by omega) e2 e5 e1
 refine s_skip1 ?_
 simp +decide only [pqn]
 refine s_reg ?_
 simp only [o_pure, o_callF, POp.ev, Opd.ev, gv, setD, List.map, xsj, xel, load3 hb2]
 refine hcall.mono ?_
 rintro _ H3 ⟨⟨x, rfl, hx3⟩, hx4⟩
 simp only [o_cont, o_pure, o_nil, POp.ev, Opd.ev, gv, setD, List.set, xsj, xel, extV, List.getElem?_toArray, xgz, xgs]
 refine s_ret1 ?_
 simp +decide only [pfr, resV, resOne, resL, gv, xsj, xel, Option.bind_some, xms]
 exact ⟨⟨_, rfl, hx3⟩, hx4⟩
theorem iMirParts_ok (lim : Nat) (s v : Value) (ss : List (List Tm)) (k : Int) (L U : List Int) (times : Int) (H : AHeap) (hl : lim ≤ H.next) (hs : SlSS H s ss) (hv : BoxV H v k L U) (hn : ss.length ≤ 1000000) (hn2 : ∀ p ∈ ss, p.length ≤ 1000000) (hL : L.length ≤ 1000000) (hU : U.length ≤ 1000000) :
   ACalls Tryz.prog lim n_impl_MirandaParts [s, v, .int .i64 times] H fun v H' => ResIL H' H.next v (mpR ss k L U times) ∧ Ext H H' := by
 obtain ⟨ls, us, rfl, hls, hus⟩ := hv
 refine is_impl_MirandaParts.go rfl ?_
 unfold c_impl_MirandaParts
 refine s_reg ?_
 simp only [o_pure, o_eff, o_nil, POp.ev, Opd.ev, EOp.ev, env0, gu, gv, setD, List.set, xms, xsj, xel, boxH, cellsV]
 have hx := Ext.alloc H [.int .i64 (k : Int), ls, us]
 have hbp : BoxP (H.alloc [.int .i64 k, ls, us]) H.next k ls us L U := ⟨alloc_new _ _, SlI.ext hls hx, SlI.ext hus hx⟩
 have hbl : H.next < (H.alloc [.int .i64 k, ls, us]).next := Nat.lt_succ_self _
 generalize H.alloc [.int .i64 (k : Int), ls, us] = H1 at hx hbp hbl ⊢
 have hn1 := hx.next
 refine s_test_I (!(askB ss k L U && in02 times)) (Ext H1) ?_ (fun H2 hx2 hg => ?_) (fun H2 hx2 hg => ?_)
 · simp only [o_pure, o_callF, POp.ev, Opd.ev, gv, setD, List.map, xsj, xel]
   refine (systemOver_ok lim s ls us ss k L U H.next H1 (by omega) (hs.ext hx) hbp hbl hn hn2 hL hU).mono ?_
   rintro _ H2 ⟨rfl, hx2⟩
   have hb2 := hbp.ext hbl hx2
   rw [ask_over]
   cases h1 : overB ss k L U
   · simp only [o_cont, o_pure, o_guard, gk_tf, o_nil, POp.ev, Opd.ev, gv, setD, xsj, xel, pickV, unV, Bool.not_false]
     exact ⟨by simp, trivial, hx2⟩
   simp only [o_cont, o_pure, o_guard, gk_ff, POp.ev, Opd.ev, gv, setD, xsj, xel, pickV, binV, load1V, unV, fadV, ne_eq, xnt, if_false, Bool.not_true, xgz, Nat.zero_add, cell_blk hb2.blk]
   by_cases h2 : k > 4
   · have d1 : decide (k > 4) = true := decide_eq_true h2
     have d2 : decide (k ≤ 4) = false := decide_eq_false (by omega)
     simp only [o_pure, o_guard, gk_tf, o_nil, POp.ev, Opd.ev, gv, setD, xsj, xel, pickV, d1, d2]
     exact ⟨by simp, trivial, hx2⟩
   · have d1 : decide (k > 4) = false := decide_eq_false h2
     have d2 : decide (k ≤ 4) = true := decide_eq_true (by omega)
     simp only [o_pure, o_callF, o_guard, gk_ff, POp.ev, Opd.ev, gv, setD, List.map, xsj, xel, d1, d2]
     refine (inside_ok _ _ _ _ _).eq ?_
     simp only [o_cont, o_pure, o_guard, gk_ff, o_nil, POp.ev, Opd.ev, gv, setD, xsj, xel, pickV, unV]
     exact ⟨by simp [in02], trivial, hx2⟩
 · refine s_reg ?_
   simp only [o_pure, o_nil, POp.ev, Opd.ev, setD, List.set, xsj, xel]
   refine s_ret1 ?_
   simp +decide only [pqr, pfr, resV, resOne, resL, gv, xsj, xel, Option.bind_some, xms]
   simp only [Bool.not_eq_true'] at hg
   unfold mpR
   rw [hg]
   exact ⟨⟨_, rfl, .inl ⟨rfl, rfl⟩⟩, hx.trans hx2⟩
 simp only [Bool.not_eq_false', Bool.and_eq_true] at hg
 obtain ⟨hg, ht⟩ := hg
 have hn2' := hx2.next
 have hx02 := hx.trans hx2
 obtain ⟨K, n, rfl, e1, e2, e3, e4, e5⟩ := askB_all hg
 have ht' : 0 ≤ times ∧ times ≤ 2 := by simpa [in02] using ht
 obtain ⟨t, rfl⟩ : ∃ t : Nat, times = t := ⟨times.toNat, by omega⟩
 have hR : mpR ss K L U t = miR ss n (PartD K t n L U) := by unfold mpR; rw [hg, ht, e1] <;> rfl
 refine s_skip1 ?_
 simp +decide only [pqn]
 refine s_reg ?_
 simp only [o_pure, o_callF, POp.ev, Opd.ev, gv, setD, List.map, xsj, xel]
 refine (iMi_ok lim s ls us ss H.next K t n L U H2 (by omega) (hs.ext hx02) (hbp.ext hbl hx2) (by omega) e3 e4 (by omega) e2 e5 e1).mono ?_
 rintro _ H3 ⟨⟨x, rfl, hx3⟩, hx4⟩
 simp only [o_cont, o_pure, o_nil, POp.ev, Opd.ev, gv, setD, List.set, xsj, xel, extV, List.getElem?_toArray, xgz, xgs]
 refine s_ret1 ?_
 simp +decide only [pfr, resV, resOne, resL, gv, xsj, xel, Option.bind_some, xms]
 rw [hR]
 exact ⟨ResIL.low ⟨_, rfl, hx3⟩ (by omega), hx02.trans hx4⟩
theorem lawMirandaParts_ok (lim : Nat) (s v : Value) (ss : List (List Tm)) (k : Int) (L U : List Int) (times : Int) (H : AHeap) (hl : lim ≤ H.next) (hs : SlSS H s ss) (hv : BoxV H v k L U) (hn : ss.length ≤ 20000000000000) (hn2 : ∀ p ∈ ss, p.length ≤ 20000000000000) (hL : L.length ≤ 20000000000000) (hU : U.length ≤ 20000000000000) :
   ACalls Tryz.prog lim n_laws_FnExactMirandaParts [s, v, .int .i64 times] H fun v H' => v = .bool true := by
 obtain ⟨ls, us, rfl, hls, hus⟩ := hv
 refine is_laws_FnExactMirandaParts.go rfl ?_
 unfold c_laws_FnExactMirandaParts
 refine s_reg ?_
 simp only [o_pure, o_eff, o_nil, POp.ev, Opd.ev, EOp.ev, env0, gu, gv, setD, List.set, xms, xsj, xel, boxH, cellsV]
 have hx : Ext H (H.alloc [.int .i64 k, ls, us]) := Ext.alloc _ _
 have hls1 := SlI.ext hls hx
 have hus1 := SlI.ext hus hx
 have hs1 := hs.ext hx
 have hbp : (H.alloc [.int .i64 k, ls, us]).blk H.next = some [.int .i64 k, ls, us] := alloc_new _ _
 have hbl : H.next < (H.alloc [.int .i64 k, ls, us]).next := Nat.lt_succ_self _
 generalize H.alloc [.int .i64 k, ls, us] = H1 at hx hls1 hus1 hs1 hbp hbl ⊢
 have hn1 := hx.next
 generalize H.next = q at *
 refine s_reg ?_
 simp only [o_pure, o_nil, POp.ev, Opd.ev, setD, List.set, xsj, xel]
 refine s_reg ?_
 simp only [o_pure, o_callF, POp.ev, Opd.ev, gv, setD, List.map, xsj, xel]
 refine (szTermSSb_ok lim _ _ 1000000 _ hs1 (by omega) (by omega) hn hn2).mono ?_
 rintro _ HH ⟨⟨z, rfl, hz⟩, hh⟩
 subst HH
 simp only [o_cont, o_pure, o_nil, POp.ev, Opd.ev, gv, setD, List.set, xsj, xel]
 refine s_test ?_
 simp only [o_pure, o_nil, POp.ev, Opd.ev, gv, setD, xsj, xel, binV, ne_eq, xnt, if_false]
 refine Test.split (fun h => ?_) (fun h => ?_)
 · refine s_reg ?_
   simp only [o_pure, o_nil, POp.ev, Opd.ev, setD, List.set, xsj, xel]
   refine s_ret1 ?_
   simp +decide only [pqr, pfr, resV, resOne, gv, xsj, xel]
 have hz0 : ¬ z < 0 := by simpa using h
 have hsz := hz hz0
 clear hz h hn hn2
 have hn : ss.length ≤ 1000000 := by omega
 have hn2 : ∀ p ∈ ss, p.length ≤ 1000000 := by
   intro p hp
   obtain ⟨j, hj, rfl⟩ := List.mem_iff_getElem.1 hp
   have := len_le_tot hj
   omega
 have htot : tot ss ≤ 1000000 := by omega
 refine s_skip1 ?_
 simp +decide only [pqn]
 refine s_reg ?_
 simp only [o_pure, o_callF, POp.ev, Opd.ev, gv, setD, List.map, xsj, xel, load3 hbp]
 refine (szBox_ok lim _ k L U z H1 (by omega) ⟨_, _, rfl, hls1, hus1⟩ hL hU (by omega) (by omega)).mono ?_
 rintro _ H2 ⟨⟨z2, rfl, hz2⟩, hx2⟩
 simp only [o_cont, o_pure, o_nil, POp.ev, Opd.ev, gv, setD, List.set, xsj, xel]
 refine s_test ?_
 simp only [o_pure, o_nil, POp.ev, Opd.ev, gv, setD, xsj, xel, binV, ne_eq, xnt, if_false]
 refine Test.split (fun h => ?_) (fun h => ?_)
 · refine s_reg ?_
   simp only [o_pure, o_nil, POp.ev, Opd.ev, setD, List.set, xsj, xel]
   refine s_ret1 ?_
   simp +decide only [pqr, pfr, resV, resOne, gv, xsj, xel]
 have hsz2 := hz2 (by simpa using h)
 clear hz2 h hL hU
 have hL : L.length ≤ 1000000 := by omega
 have hU : U.length ≤ 1000000 := by omega
 refine s_skip1 ?_
 simp +decide only [pqn]
 have keep : ∀ G, Ext H1 G → SlSS G s ss ∧ SlI G ls L ∧ SlI G us U ∧ G.blk q = some [.int .i64 k, ls, us] ∧ lim ≤ G.next ∧ q < G.next := fun G hg => by
   have := hg.next
   exact ⟨hs1.ext hg, SlI.ext hls1 hg, SlI.ext hus1 hg, by rw [hg.blk _ hbl]; exact hbp, by omega, by omega⟩
 have hrs := (show (zl ((mpR ss k L U times).getD [])).length ≤ 1000 by
   rw [zl_length]
   unfold mpR
   split
   · rename_i hg
     simp only [Bool.and_eq_true] at hg
     obtain ⟨hg, ht⟩ := hg
     obtain ⟨K, n, rfl, e1, e2, e3, e4, e5⟩ := askB_all hg
     have ht' : 0 ≤ times ∧ times ≤ 2 := by simpa [in02] using ht
     have q4 := (goodB_small e3).2.2.2.1
     unfold miR
     split
     · have h1 := idxO_len ss ss.length (PartD (K : Int).toNat times.toNat ss.length L U) (PartD (K : Int).toNat times.toNat ss.length L U).length
       have h2 := partD_len (K := (K : Int).toNat) (t := times.toNat) (n := ss.length) (L := L) (U := U) (by omega) (by omega)
       simp only [Option.getD_some]
       omega
     · simp
   · simp)
 generalize hR : mpR ss k L U times = R at hrs
 generalize hok : R.isSome = ok
 have hne : (!(ok == ok)) = false := by simp
 have hne1 : (!true) = false := rfl
 have hH12 := hx2.next
 obtain ⟨ks, kl, ku, kb, kn, kq⟩ := keep _ hx2
 refine s_reg ?_
 simp only [o_pure, o_callN, POp.ev, Opd.ev, gv, setD, List.map, xsj, xel, load3 kb]
 refine (toTermSS_ok _ _ _ false _ (Nat.le_refl _) ks hn hn2).use ?_
 rintro a1 HA ⟨hA, hxA⟩ _
 obtain ⟨ks, kl, ku, kb, kn, kq⟩ := keep _ ((hx2).trans hxA)
 simp only [o_cont, o_callF, Opd.ev, gv, setD, List.map]
 refine (toBox_ok lim _ k L U false HA kn ⟨_, _, rfl, kl, ku⟩ hL hU).mono ?_
 rintro _ HB ⟨bs, bt, bb, bc, rfl, _, _, _, hb1, hb2, hxB⟩
 simp only [o_cont, o_callF, Opd.ev, gv, setD, List.map]
 obtain ⟨_, _, _, _, kn, kq⟩ := keep _ (((hx2).trans hxA).trans hxB)
 refine (sMirParts_ok lim _ _ ss k L U times HB kn (hA.ext hxB).slss ⟨_, _, rfl, hb1.sl, hb2.sl⟩ hn hn2 hL hU).mono ?_
 rintro _ G1 ⟨⟨wv, rfl, hw⟩, hxG1'⟩
 rw [hR] at hw
 have hxG1 := (((hx2).trans hxA).trans hxB).trans hxG1'
 have hnAG1 := hxA.next
 have hnBG1 := hxB.next
 have hnG1 := hxG1'.next
 simp only [o_cont, o_pure, o_nil, POp.ev, Opd.ev, gv, setD, List.set, xsj, xel, extV, List.getElem?_toArray, xgz, xgs, hR, hok]
 clear hA hb1 hb2
 generalize HB.next = wlo at hw hnBG1 hnG1
 generalize hrr : (zl (R.getD [])) = r at hw hrs
 obtain ⟨ks, kl, ku, kb, kn, kq⟩ := keep _ hxG1
 refine s_reg ?_
 simp only [o_pure, o_callF, POp.ev, Opd.ev, gv, setD, List.map, xsj, xel]
 refine (toTermSS_ok lim _ _ false _ kn ks hn hn2).mono ?_
 rintro x G2 ⟨hX, hxG2'⟩
 rcases hX with ⟨h0, _⟩ | ⟨xb, xvs, xfs, xbs, hX⟩
 · cases h0
 simp only [o_cont, o_pure, o_nil, POp.ev, Opd.ev, gv, setD, List.set, xsj, xel]
 have hnG2 := hxG2'.next
 have hxG2 := hxG1.trans hxG2'
 replace hw := hw.ext hxG2'
 obtain ⟨ks, kl, ku, kb, kn, kq⟩ := keep _ hxG2
 refine s_reg ?_
 simp only [o_pure, o_callF, POp.ev, Opd.ev, gv, setD, List.map, xsj, xel, load3 kb]
 refine (toBox_ok lim _ k L U false _ kn ⟨_, _, rfl, kl, ku⟩ hL hU).mono ?_
 rintro _ G3 ⟨bs, bt, bb, bc, rfl, hbb, hbc, hbne, hb1, hb2, hxG3'⟩
 rcases hb1 with ⟨h0, _⟩ | hb1
 · cases h0
 rcases hb2 with ⟨h0, _⟩ | hb2
 · cases h0
 replace hbne := hbne rfl
 have hnG3 := hxG3'.next
 have hbb2 := hb1.2.1
 have hbc2 := hb2.2.1
 replace hX := hX.ext hxG3'
 replace hw := hw.ext hxG3'
 have hxG3 := hxG2.trans hxG3'
 obtain ⟨ks, kl, ku, kb, kn, kq⟩ := keep _ hxG3
 simp only [o_cont, o_eff, o_nil, Opd.ev, EOp.ev, gv, setD, List.set, xsj, xel, store3_new (lim := lim) (H := G3) kn]
 have hxa := Ext.alloc G3 [.int .i64 k, bs, bt]
 have hp : (G3.alloc [.int .i64 k, bs, bt]).blk G3.next = some [.int .i64 k, bs, bt] := alloc_new _ _
 have hpl : G3.next < (G3.alloc [.int .i64 k, bs, bt]).next := Nat.lt_succ_self _
 generalize G3.alloc [.int .i64 k, bs, bt] = G4 at hxa hp hpl ⊢
 generalize hppe : G3.next = pp at *
 replace hX := hX.ext hxa
 replace hb1 := hb1.ext hxa
 replace hb2 := hb2.ext hxa
 replace hw := hw.ext hxa
 have hxG4 := hxG3.trans hxa
 have step : ∀ G, Ext G4 G → LaidX G G1.next G2.next xb xvs xfs xbs x ss false ∧ Laid G bb bs L ∧ Laid G bc bt U ∧ G.blk pp = some [.int .i64 k, bs, bt] ∧ OwnI G wlo G1.next wv r := fun G hg => ⟨hX.ext hg, hb1.ext hg, hb2.ext hg, by rw [hg.blk _ hpl]; exact hp, hw.ext hg⟩
 obtain ⟨_, _, _, _, kn, _⟩ := keep _ hxG4
 refine s_reg ?_
 simp only [o_pure, o_callF, POp.ev, Opd.ev, gv, setD, List.map, xsj, xel, load3 hp]
 refine (iMirParts_ok lim _ _ ss k L U times G4 kn hX.slss ⟨_, _, rfl, hb1.vec.sl, hb2.vec.sl⟩ hn hn2 hL hU).mono ?_
 rintro _ J1 ⟨⟨gw, rfl, hg⟩, hj1⟩
 rw [hR, hrr] at hg
 have hxJ1 := hxG4.trans hj1
 have hnJ1 := hj1.next
 simp only [o_cont, o_pure, o_nil, POp.ev, Opd.ev, gv, setD, List.set, xsj, xel, extV, List.getElem?_toArray, xgz, xgs, hR, hok]
 obtain hr1 := hrs
 refine s_test_I false (Ext J1) ?_ (fun J2 hj2 hg0 => by cases hg0) (fun J2 hj2 _ => ?_)
 · obtain ⟨_, _, _, _, hw⟩ := step _ hj1
   simp only [o_pure, o_callF, POp.ev, Opd.ev, gv, setD, List.map, xsj, xel]
   refine (Ints.eqIntS_ok _ _ _ _ _ _ hg.sl hw.sl (by omega)).eq ?_
   have hdd : decide (r = r) = true := by simp
   simp only [o_cont, o_pure, o_guard, gk_ff, o_nil, POp.ev, Opd.ev, gv, setD, xsj, xel, pickV, unV, boolEq, if_true, beq_self_eq_true, Bool.not_true, decide_true]
   exact ⟨trivial, trivial, Ext.refl _⟩
 refine s_skip1 ?_
 simp +decide only [pqn]
 have hxJ2 := hxJ1.trans hj2
 have hj02 := hj1.trans hj2
 have hnJ2 := hj2.next
 replace hg := hg.ext hj2
 refine s_test_I false (Ext J2) ?_ (fun J3 hj3 hg0 => by cases hg0) (fun J3 hj3 _ => ?_)
 · obtain ⟨ks, kl, ku, kb, kn, kq⟩ := keep _ hxJ2
   simp only [o_pure, o_callF, POp.ev, Opd.ev, gv, setD, List.map, xsj, xel]
   refine (toTermSS_ok lim _ _ false _ kn ks hn hn2).mono ?_
   rintro y J ⟨hY, hyx⟩
   rcases hY with ⟨h0, _⟩ | ⟨yb, yvs, yfs, ybs, hY⟩
   · cases h0
   simp only [o_cont, o_callF, Opd.ev, gv, setD, List.map]
   refine (intactTermSS_ok lim _ _ _ _ _ _ _ _ _ _ _ _ _ _ _ _ (step _ (hj02.trans hyx)).1 hY hn hn2).mono ?_
   rintro _ J' ⟨rfl, hyx'⟩
   simp only [o_cont, o_pure, o_nil, POp.ev, Opd.ev, gv, setD, xsj, xel, unV, Bool.not_true]
   exact ⟨trivial, trivial, hyx.trans hyx'⟩
 refine s_skip1 ?_
 simp +decide only [pqn]
 have hxJ3 := hxJ2.trans hj3
 have hj03 := hj02.trans hj3
 have hnJ3 := hj3.next
 replace hg := hg.ext hj3
 refine s_test_I false (Ext J3) ?_ (fun J4 hj4 hg0 => by cases hg0) (fun J4 hj4 _ => ?_)
 · obtain ⟨ks, kl, ku, kb, kn, kq⟩ := keep _ hxJ3
   obtain ⟨_, _, _, t4, _⟩ := step _ hj03
   simp only [o_pure, o_callN, POp.ev, Opd.ev, gv, setD, List.map, xsj, xel, load3 t4, load3 kb]
   refine (toBox_ok _ _ k L U false J3 (Nat.le_refl _) ⟨_, _, rfl, kl, ku⟩ hL hU).use ?_
   rintro _ J ⟨es, et, eb, ec, rfl, _, _, _, he1, he2, hyx⟩ _
   rcases he1 with ⟨h0, _⟩ | he1
   · cases h0
   rcases he2 with ⟨h0, _⟩ | he2
   · cases h0
   obtain ⟨_, _, _, _, kn, _⟩ := keep _ (hxJ3.trans hyx)
   obtain ⟨_, t2, t3, _, _⟩ := step _ (hj03.trans hyx)
   simp only [o_cont, o_callF, Opd.ev, gv, setD, List.map]
   refine (intactBox_ok lim k L U bb bc eb ec bs bt es et J kn t2 t3 he1 he2 hL hU).mono ?_
   rintro _ J' ⟨rfl, hyx'⟩
   simp only [o_cont, o_pure, o_nil, POp.ev, Opd.ev, gv, setD, xsj, xel, unV, Bool.not_true]
   exact ⟨trivial, trivial, hyx.trans hyx'⟩
 refine s_skip1 ?_
 simp +decide only [pqn]
 have hxJ4 := hxJ3.trans hj4
 have hj04 := hj03.trans hj4
 have hnJ4 := hj4.next
 replace hg := hg.ext hj4
 obtain ⟨tX, t2, t3, t4, hw⟩ := step _ hj04
 have hn04 := hj04.next
 refine s_reg ?_
 simp only [o_pure, o_nil, POp.ev, Opd.ev, setD, List.set, xsj, xel]
 refine s_reg ?_
 simp only [o_pure, o_callF, POp.ev, Opd.ev, gv, setD, List.map, xsj, xel]
 refine (markTermSS_ok lim G1.next G2.next _ _ 101 _ (by omega) (.inr ⟨_, _, _, tX.own⟩) hn htot (by omega) (by omega)).mono ?_
 rintro _ K1 ⟨rfl, _, hout, hnK1⟩
 simp only [o_cont, o_pure, o_nil, POp.ev, Opd.ev, gv, setD, List.set, xsj, xel]
 replace hw := hw.out hout (.inl (by omega))
 replace hg := hg.out hout (.inr (by omega))
 have hxK1 := hout.ext hxJ4 (by omega)
 have t4' : K1.blk pp = some [.int .i64 k, bs, bt] := by rw [hout.blk _ (by omega) (by omega)]; exact t4
 have hBO : BoxO K1 G2.next pp (.agg #[.int .i64 k, bs, bt]) k L U := ⟨_, _, rfl, .inr ⟨bb, bc, hbne, by omega, by omega, by omega, by omega, Vec.keep t2.vec hout.next (fun h => hout.blk _ h (by omega)), Vec.keep t3.vec hout.next (fun h => hout.blk _ h (by omega))⟩⟩
 clear tX t2 t3 t4
 refine s_reg ?_
 simp only [o_pure, o_callF, POp.ev, Opd.ev, gv, setD, List.map, xsj, xel, load3 t4']
 refine (markBox_ok lim G2.next pp _ k (101 + 4 * (tot ss : Int)) L U K1 (by omega) (by omega) (by omega) hBO (by omega) (by omega) (by omega) (by omega)).mono ?_
 rintro _ K2 ⟨rfl, _, hout2⟩
 simp only [o_cont, o_pure, o_nil, POp.ev, Opd.ev, gv, setD, List.set, xsj, xel]
 have hnK2 := hout2.next
 replace hw := hw.out hout2 (.inl (by omega))
 replace hg := hg.out hout2 (.inr (by omega))
 have hxK2 := hout2.ext hxK1 (by omega)
 have hneg : decide ((101 : Int) + 4 * (tot ss : Int) + (L.length : Int) + (U.length : Int) < 0) = false := by simp; omega
 refine s_test_I false (Ext K2) ?_ (fun K3 hk3 hg0 => by cases hg0) (fun K3 hk3 _ => ?_)
 · simp only [o_pure, o_callF, o_guard, gk_ff, POp.ev, Opd.ev, gv, setD, List.map, xsj, xel, binV, ne_eq, xnt, if_false, hneg]
   refine (Ints.eqIntS_ok _ _ _ _ _ _ hg.sl hw.sl (by omega)).eq ?_
   have hdd : decide (r = r) = true := by simp
   simp only [o_cont, o_pure, o_guard, gk_ff, o_nil, POp.ev, Opd.ev, gv, setD, xsj, xel, pickV, unV, boolEq, if_true, beq_self_eq_true, Bool.not_true, decide_true]
   exact ⟨trivial, trivial, Ext.refl _⟩
 refine s_skip1 ?_
 simp +decide only [pqn]
 have hnK3 := hk3.next
 replace hw := hw.ext hk3
 replace hg := hg.ext hk3
 have hxK3 := hxK2.trans hk3
 refine s_reg ?_
 simp only [o_pure, o_nil, POp.ev, Opd.ev, setD, List.set, xsj, xel]
 refine s_reg ?_
 simp only [o_pure, o_callF, POp.ev, Opd.ev, gv, setD, List.map, xsj, xel]
 obtain ⟨K4, hmk, hg4, hout4, hnK4⟩ : ∃ R4 : Value → AHeap → Prop, ACalls Tryz.prog lim n_laws_markIntS [gw, .int .i64 101] K3 R4 ∧ (∀ v K, R4 v K → v = .int .i64 (101 + (r.length : Int)) ∧ OwnI K G4.next J1.next gw (iota 101 r.length) ∧ Out G4.next J1.next K3 K ∧ K.next = K3.next) ∧ True ∧ True := by
   rcases hg with ⟨rfl, rfl⟩ | ⟨c, c1, c2, c3⟩
   · refine ⟨_, Ints.markIntS_ok lim K3.next (.slice none 0 0) [] 101 K3 (by omega) (Vec.nil _ _ _) (by simp) (by omega) (by omega), ?_, trivial, trivial⟩
     rintro v K ⟨rfl, _, h3, h4⟩
     exact ⟨by simp, .inl ⟨rfl, rfl⟩, ⟨h3.next, fun b hb _ => h3.blk b hb (by omega)⟩, h4⟩
   · refine ⟨_, Ints.markIntS_ok lim c gw r 101 K3 (by omega) c3 (by omega) (by omega) (by omega), ?_, trivial, trivial⟩
     rintro v K ⟨rfl, h2, h3, h4⟩
     exact ⟨rfl, .inr ⟨c, c1, c2, h2⟩, Out.of_chg h3 c1 c2, h4⟩
 refine hmk.mono ?_
 rintro _ K5 hR4
 obtain ⟨rfl, hg5, hout5, hnK5⟩ := hg4 _ _ hR4
 simp only [o_cont, o_pure, o_nil, POp.ev, Opd.ev, gv, setD, List.set, xsj, xel]
 replace hw := hw.out hout5 (.inl (by omega))
 have hxK5 := hout5.ext hxK3 (by omega)
 clear hg
 refine s_reg ?_
 simp only [o_pure, o_nil, POp.ev, Opd.ev, setD, List.set, xsj, xel]
 refine s_reg ?_
 simp only [o_pure, o_callF, POp.ev, Opd.ev, gv, setD, List.map, xsj, xel]
 refine (heldIntS_ok _ _ r.length 101 _ hg5.sl (by omega) (by omega) (by omega)).eq ?_
 simp only [o_cont, o_pure, o_nil, POp.ev, Opd.ev, gv, setD, List.set, xsj, xel]
 have hneg2 : decide ((101 : Int) + (r.length : Int) < 0) = false := by simp; omega
 have heq : ((101 : Int) + (r.length : Int) != 101 + (r.length : Int)) = false := by simp
 refine s_test ?_
 simp only [o_pure, o_nil, POp.ev, Opd.ev, gv, setD, xsj, xel, binV, ne_eq, xnt, if_false, hneg2]
 refine Test.false_ (s_skip1 ?_)
 simp +decide only [pqn]
 refine s_test ?_
 simp only [o_pure, o_nil, POp.ev, Opd.ev, gv, setD, xsj, xel, binV, ne_eq, xnt, if_false, heq]
 refine Test.false_ (s_skip1 ?_)
 simp +decide only [pqn]
 obtain ⟨ks, kl, ku, kb, kn, kq⟩ := keep _ hxK5
 refine s_reg ?_
 simp only [o_pure, o_callN, POp.ev, Opd.ev, gv, setD, List.map, xsj, xel, load3 kb]
 refine (toTermSS_ok _ _ _ true _ (Nat.le_refl _) ks hn hn2).use ?_
 rintro a1 HA ⟨hA, hxA⟩ _
 obtain ⟨ks, kl, ku, kb, kn, kq⟩ := keep _ ((hxK5).trans hxA)
 simp only [o_cont, o_callF, Opd.ev, gv, setD, List.map]
 refine (toBox_ok lim _ k L U true HA kn ⟨_, _, rfl, kl, ku⟩ hL hU).mono ?_
 rintro _ HB ⟨bs, bt, bb, bc, rfl, _, _, _, hb1, hb2, hxB⟩
 simp only [o_cont, o_callF, Opd.ev, gv, setD, List.map]
 obtain ⟨_, _, _, _, kn, kq⟩ := keep _ (((hxK5).trans hxA).trans hxB)
 refine (iMirParts_ok lim _ _ ss k L U times HB kn (hA.ext hxB).slss ⟨_, _, rfl, hb1.sl, hb2.sl⟩ hn hn2 hL hU).mono ?_
 rintro _ M1 ⟨⟨uv, rfl, hu⟩, hxM1'⟩
 rw [hR] at hu
 have hxM1 := (((hxK5).trans hxA).trans hxB).trans hxM1'
 have hnAM1 := hxA.next
 have hnBM1 := hxB.next
 have hnM1 := hxM1'.next
 simp only [o_cont, o_pure, o_nil, POp.ev, Opd.ev, gv, setD, List.set, xsj, xel, extV, List.getElem?_toArray, xgz, xgs, hR, hok]
 clear hA hb1 hb2
 rw [hrr] at hu
 replace hw := ((hw.ext hxA).ext hxB).ext hxM1'
 replace hg5 := ((hg5.ext hxA).ext hxB).ext hxM1'
 refine s_test_I false (Ext M1) ?_ (fun M2 hm2 hg0 => by cases hg0) (fun M2 hm2 _ => ?_)
 · simp only [o_pure, o_callF, POp.ev, Opd.ev, gv, setD, List.map, xsj, xel]
   refine (Ints.eqIntS_ok _ _ _ _ _ _ hu.sl hw.sl (by omega)).eq ?_
   have hdd : decide (r = r) = true := by simp
   simp only [o_cont, o_pure, o_guard, gk_ff, o_nil, POp.ev, Opd.ev, gv, setD, xsj, xel, pickV, unV, boolEq, if_true, beq_self_eq_true, Bool.not_true, decide_true]
   exact ⟨trivial, trivial, Ext.refl _⟩
 refine s_skip1 ?_
 simp +decide only [pqn]
 replace hg5 := hg5.ext hm2
 refine s_reg ?_
 simp only [o_pure, o_nil, POp.ev, Opd.ev, setD, List.set, xsj, xel]
 refine s_reg ?_
 simp only [o_pure, o_callF, POp.ev, Opd.ev, gv, setD, List.map, xsj, xel]
 refine (heldIntS_ok _ _ r.length 101 _ hg5.sl (by omega) (by omega) (by omega)).eq ?_
 simp only [o_cont, o_pure, o_nil, POp.ev, Opd.ev, gv, setD, List.set, xsj, xel]
 refine s_test ?_
 simp only [o_pure, o_nil, POp.ev, Opd.ev, gv, setD, xsj, xel, binV, ne_eq, xnt, if_false, hneg2]
 refine Test.false_ (s_skip1 ?_)
 simp +decide only [pqn]
 refine s_test ?_
 simp only [o_pure, o_nil, POp.ev, Opd.ev, gv, setD, xsj, xel, binV, ne_eq, xnt, if_false, heq]
 refine Test.false_ (s_skip1 ?_)
 simp +decide only [pqn]
 refine s_reg ?_
 simp only [o_pure, o_nil, POp.ev, Opd.ev, setD, List.set, xsj, xel]
 refine s_ret1 ?_
 simp +decide only [pfr, resV, resOne, gv, xsj, xel]
end Go.Proofs.YtagocdkcnajiiaaGreat
