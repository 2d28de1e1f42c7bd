/- Parts of the proof of a statement of this seat: contracts of functions that the law calls, or the law's own row; no condition. -/
import Derived.Test.YtagocdkcnajiiaaGreatM8
/- Parts of boxes, the reference: PartsOf; no condition beyond stated ranges. -/
namespace Go.Proofs.YtagocdkcnajiiaaGreat
open Go.Ab Ints
set_option linter.unusedSimpArgs false
set_option linter.unusedVariables false
theorem map_get {α β : Type} {f : α → β} {l : List α} {m : List β} (h : l.map f = m) {i : Nat} (hi : i < l.length) (hm : i < m.length) : f l[i] = m[i] := by
 subst h
 simp
theorem cut_step {α : Type} (lt : α → α → Bool) (x : α) (out : List α) {k : Nat} (hk : k < out.length) : cutAt lt x out (k + 1) = if lt x out[k] then cutAt lt x out k else k + 1 := by
 rw [cutAt, List.getElem?_eq_getElem hk]
theorem cut_le {α : Type} (lt : α → α → Bool) (x : α) (out : List α) : ∀ k, k ≤ out.length → cutAt lt x out k ≤ out.length
 | 0, _ => Nat.zero_le _
 | k + 1, h => by
   rw [cut_step lt x out (by omega)]
   split
   · exact cut_le lt x out k (by omega)
   · exact h
theorem sParts_ok (lim : Nat) (v : Value) (K t n : Nat) (L U : List Int) (H : AHeap) (hl : lim ≤ H.next) (hv : BoxV H v K L U) (hg : goodB K L U = true) (hK : K ≤ 4) (ht : t ≤ 2) (hL : L.length = n) :
   ACalls Tryz.prog lim n_spec_PartsOf [v, .int .i64 t] H fun v H' => (∃ w es b, v = .tuple #[w, .bool true] ∧ es.map dat = (gridI (2 ^ t) n).map (boxI K t L U) ∧ GrowB H' H.next (H.next ≤ ·) b w es) ∧ Ext H H' := by
 obtain ⟨q1, q2, q3, q4, q5, q6, q7⟩ := goodB_small hg
 have hU : U.length = n := by omega
 have hrg : rngB (8 * 2 ^ K) L U = true ∧ (K = 0 ∨ oddB L U = true) := by
   simp only [goodB, Bool.and_eq_true, Bool.or_eq_true, beq_iff_eq] at hg
   refine ⟨by simpa using hg.1.2, ?_⟩
   rcases hg.2 with h | h
   · left; omega
   · exact .inr h
 obtain ⟨hr, hodd⟩ := hrg
 obtain ⟨s, u, rfl, hs, hu⟩ := hv
 refine is_spec_PartsOf.go rfl ?_
 unfold c_spec_PartsOf
 refine s_reg ?_
 simp only [o_pure, o_eff, o_nil, POp.ev, Opd.ev, EOp.ev, env0, gu, gv, setD, List.set, xms, xsj, xel, boxH, cellsV]
 have hx := Ext.alloc H [.int .i64 (K : Int), s, u]
 have hbp : (H.alloc [.int .i64 (K : Int), s, u]).blk H.next = some [.int .i64 (K : Int), s, u] := alloc_new _ _
 have hbl : H.next < (H.alloc [.int .i64 (K : Int), s, u]).next := Nat.lt_succ_self _
 generalize H.alloc [.int .i64 (K : Int), s, u] = H1 at hx hbp hbl ⊢
 have hn1 := hx.next
 have hs1 := SlI.ext hs hx
 have hu1 := SlI.ext hu hx
 have i1 : (decide ((0 : Int) ≤ (t : Int)) && decide ((t : Int) ≤ 2)) = true := by simp; omega
 refine s_test_I false (Ext H1) ?_ (fun H2 hx2 hg => by cases hg) (fun H2 hx2 _ => ?_)
 · simp only [o_pure, o_callF, POp.ev, Opd.ev, gv, setD, List.map, xsj, xel, load3 hbp]
   refine (Ints.bxGood_ok lim _ K L U H1 (by omega) ⟨s, u, rfl, hs1, hu1⟩ (by omega) (by omega)).mono ?_
   rw [hg]
   rintro _ H2 ⟨rfl, hx2⟩
   simp only [o_cont, o_pure, o_callF, o_guard, gk_ff, POp.ev, Opd.ev, gv, setD, List.map, xsj, xel, unV, Bool.not_true]
   refine (Ints.l1In_ok _ _ _ _ _).eq ?_
   rw [i1]
   simp only [o_cont, o_pure, o_guard, gk_ff, o_nil, POp.ev, Opd.ev, gv, setD, xsj, xel, pickV, unV, Bool.not_true]
   exact ⟨trivial, trivial, hx2⟩
 have hn2 := hx2.next
 have hbp2 : H2.blk H.next = some [.int .i64 (K : Int), s, u] := by rw [hx2.blk _ hbl]; exact hbp
 refine s_skip1 ?_
 simp +decide only [pqn]
 refine s_reg ?_
 simp only [o_pure, o_callN, POp.ev, Opd.ev, gv, setD, List.map, xsj, xel, load1V, fadV, xgz, xgs, Nat.zero_add, cell_blk hbp2]
 refine (Ints.l1Own_ok _ s L H2 (Nat.le_refl _) (SlI.ext hs1 hx2) (by omega)).use ?_
 rintro s0 H3 ⟨c0, c01, c02, hv0, hx3⟩ _
 have hn3 := hx3.next
 simp only [o_cont, o_callN, Opd.ev, gv, setD, List.map]
 refine (Ints.l1Own_ok _ u U H3 (Nat.le_refl _) (SlI.ext hu1 (hx2.trans hx3)) (by omega)).use ?_
 rintro u0 H4 ⟨d0, d01, d02, hw0, hx4⟩ _
 have hn4 := hx4.next
 have hf3 := fill3 (a := .int .i64 0) (b := .slice none 0 0) (c := .slice none 0 0) (cells_int .i64 (K : Int)) (Vec.cellsV hv0) (Vec.cellsV hw0)
 have hb1 := bslice_box H4 ⟨K, s0, u0, L, U⟩ (Vec.cellsV hv0) (Vec.cellsV hw0)
 simp only [bxv] at hb1
 simp only [o_cont, o_pure, o_eff, o_nil, POp.ev, Opd.ev, EOp.ev, gv, setD, List.set, List.map, xms, xsj, xel, hf3, xms, hb1]
 have hx5 := Ext.alloc H4 (bxc ⟨K, s0, u0, L, U⟩)
 have hn5 := hx5.next
 have hx05 := ((hx.trans hx2).trans hx3).trans (hx4.trans hx5)
 have hG0 : GrowB (H4.alloc (bxc ⟨K, s0, u0, L, U⟩)) H.next (H.next ≤ ·) H4.next (.slice (some ⟨H4.next, 0, some 0⟩) 1 1) [⟨K, s0, u0, L, U⟩] := by
   refine ⟨by rw [bxs_one]; exact Vec.lit rfl, by omega, .inr (Nat.lt_succ_self _), fun y hy => ?_⟩
   rw [List.mem_singleton] at hy
   subst hy
   exact ⟨c0, d0, Vec.ext hv0 (hx4.trans hx5), Vec.ext hw0 hx5, by omega, by omega, by omega, by omega, by omega, by omega⟩
 have hD0 : ([⟨K, s0, u0, L, U⟩] : List BX).map dat = (idxL n 0).map (boxI K 0 L U) := by
   have hz := lev_zero L U (by omega)
   rw [idxL, List.map_cons, List.map_nil, List.map_cons, List.map_nil]
   unfold boxI
   rw [← hL, hz.1, hz.2, Nat.add_zero, normB_self hodd]
   rfl
 generalize H4.alloc (bxc ⟨K, s0, u0, L, U⟩) = H5 at hG0 hx5 hn5 hx05 ⊢
 generalize (Value.slice (some ⟨H4.next, 0, some 0⟩) 1 1) = l0 at hG0 ⊢
 generalize ([⟨K, s0, u0, L, U⟩] : List BX) = es0 at hG0 hD0
 generalize H4.next = b0 at hG0
 have fidx := fun r (hr : r ≤ 2) => idx_facts ⟨n, by omega⟩ ⟨r, by omega⟩
 simp only at fidx
 refine s_cut (fun e' H' => ∃ (es : List BX) (b : Nat) (list x6 x7 x8 x9 x13 x14 x15 : Value), GrowB H' H.next (H.next ≤ ·) b list es ∧ es.map dat = (idxL n t).map (boxI K t L U) ∧ Ext H H' ∧ e' = [.agg #[.int .i64 (K : Int), s, u], .int .i64 0, .pointer (some ⟨H.next, 0, none⟩), .slice none 0 0, .bool false, list, x6, x7, x8, x9, undef, undef, undef, x13, x14, x15, undef, undef, undef]) ?_ ?_
 · refine s_block1 ?_
   refine s_loop1 (fun j e' H' => ∃ (r : Nat) (es : List BX) (b : Nat) (list x6 x7 x8 x9 x13 x14 x15 : Value), r + j = t ∧ GrowB H' H.next (H.next ≤ ·) b list es ∧ es.map dat = (idxL n r).map (boxI K r L U) ∧ Ext H H' ∧ e' = [.agg #[.int .i64 (K : Int), s, u], .int .i64 (j : Nat), .pointer (some ⟨H.next, 0, none⟩), .slice none 0 0, .bool false, list, x6, x7, x8, x9, undef, undef, undef, x13, x14, x15, undef, undef, undef]) t ⟨0, es0, b0, l0, _, _, _, _, _, _, _, by omega, hG0, hD0, hx05, rfl⟩ ?_
   clear hG0 hD0 hx05
   rintro j e' Hr ⟨r, es, b, list, x6, x7, x8, x9, x13, x14, x15, hrj, hG, hD, hxr, rfl⟩
   have hnr := hxr.next
   refine s_test ?_
   simp only [o_pure, o_nil, POp.ev, Opd.ev, gv, setD, xsj, xel, binV, ne_eq, xnt, if_false]
   refine Test.split (fun hlt => ?_) (fun hlt => ?_)
   · have hj : 0 < j := by have := of_decide_eq_true hlt; omega
     obtain ⟨f1, f2⟩ := fidx r (by omega)
     have hnext : idxL n (r + 1) = (idxL n r).flatMap bitsI := rfl
     have hlen : es.length = (idxL n r).length := by have := congrArg List.length hD; simpa using this
     generalize idxL n r = I at *
     refine s_skip1 ?_
     simp +decide only [pqn]
     refine s_block1 ?_
     refine s_reg ?_
     simp only [o_pure, o_nil, POp.ev, Opd.ev, setD, List.set, xsj, xel]
     refine s_assoc (s_reg ?_)
     simp only [o_pure, o_nil, POp.ev, Opd.ev, gv, setD, List.set, xsj, xel, hG.slb.lenV]
     refine s_block ?_
     refine s_loop1 (fun j2 e' H' => ∃ (m : Nat) (es2 : List BX) (bn : Nat) (nx x7 x8 x9 : Value), m + j2 = es.length ∧ GrowB H' Hr.next (H.next ≤ ·) bn nx es2 ∧ es2.map dat = ((I.take m).flatMap bitsI).map (boxI K (r + 1) L U) ∧ Ext Hr H' ∧ e' = [.agg #[.int .i64 (K : Int), s, u], .int .i64 (j : Nat), .pointer (some ⟨H.next, 0, none⟩), .slice none 0 0, .bool false, list, nx, x7, x8, x9, undef, undef, undef, list, .int .i64 es.length, .int .i64 m, undef, undef, undef]) es.length ⟨0, [], Hr.next, .slice none 0 0, _, _, _, by omega, GrowB.nilL Hr Hr.next Hr.next _ (Nat.le_refl _), rfl, Ext.refl _, rfl⟩ ?_
     rintro j2 e' H6 ⟨m, es2, bn, nx, x7, x8, x9, hmj, hG2, hD2, hx6, rfl⟩
     have hn6 := hx6.next
     refine s_test ?_
     simp only [o_pure, o_nil, POp.ev, Opd.ev, gv, setD, xsj, xel, binV, ne_eq, xnt, if_false]
     refine Test.split (fun hlt2 => ?_) (fun hlt2 => ?_)
     · have hm : m < es.length := by have := of_decide_eq_true hlt2; omega
       have hmI : m < I.length := by omega
       obtain ⟨o1, o2, u1, u2⟩ := hG.slb.at hm
       have hdx := map_get hD hm (by rw [List.length_map]; exact hmI)
       rw [List.getElem_map] at hdx
       obtain ⟨fv, fi⟩ := f2 _ (List.getElem_mem hmI)
       have hIt := List.take_succ_eq_append_getElem hmI
       generalize I[m] = vv at *
       obtain ⟨c, d, g1, g2, g3, g4, g5, g6, g7, g8⟩ := hG.el _ (List.getElem_mem hm)
       generalize es[m] = x at *
       refine s_skip1 ?_
       simp +decide only [pqn]
       refine s_block1 ?_
       refine s_reg ?_
       have hst : storeH lim (H6.alloc [.int .i64 0, .slice none 0 0, .slice none 0 0]) 3 (.pointer (some ⟨H6.next, 0, none⟩)) (bxv x) = some (undef, H6.alloc [.int .i64 (x.k : Int), x.s, x.t]) := store3_new (by omega)
       simp only [o_pure, o_eff, o_nil, POp.ev, Opd.ev, EOp.ev, gv, setD, List.set, xsj, xel, u1, u2 H6 hx6, hst]
       have hx7 := Ext.alloc H6 [.int .i64 (x.k : Int), x.s, x.t]
       have hb7 : (H6.alloc [.int .i64 (x.k : Int), x.s, x.t]).blk H6.next = some [.int .i64 (x.k : Int), x.s, x.t] := alloc_new _ _
       generalize H6.alloc [.int .i64 (x.k : Int), x.s, x.t] = H7 at hx7 hb7 ⊢
       have hn7 := hx7.next
       have hx67 := hx6.trans hx7
       have hlv1 := lowR_length r L U vv (by omega) (by omega)
       have hlv2 := highR_length r L U vv (by omega) (by omega)
       have hcall : ACalls Tryz.prog lim n_spec_bxParts [bxv x, .int .i64 0] H7 _ := bxParts_ok n (by omega) (by omega) n lim (bxv x) x [] [] L U vv K r (fun c => H.next ≤ c ∧ c < Hr.next) H7 (by omega) ⟨rfl, c, d, Vec.ext g1 hx67, Vec.ext g2 hx67, ⟨g3, g4⟩, by omega, ⟨g5, g6⟩, by omega⟩ (by
         rw [List.nil_append, List.nil_append, normB_dbl]
         exact hdx) rfl hL (by omega) (by omega) (by simp; omega) (by omega) rfl hr fi
       refine s_reg ?_
       simp only [o_pure, o_callF, POp.ev, Opd.ev, gv, setD, List.map, xsj, xel, load3 hb7]
       refine hcall.mono ?_
       rintro _ H8 ⟨⟨w, es1, b1, rfl, de1, hG1⟩, hx8⟩
       have hn8 := hx8.next
       simp only [o_cont, o_pure, o_nil, POp.ev, Opd.ev, gv, setD, List.set, xsj, xel, extV, List.getElem?_toArray, xgz, xgs]
       refine s_test ?_
       simp only [o_pure, o_nil, POp.ev, Opd.ev, gv, setD, xsj, xel, unV, Bool.not_true]
       refine Test.false_ (s_skip1 ?_)
       simp +decide only [pqn]
       have hlen1 : es1.length = (bitsI vv).length := by have := congrArg List.length de1; simpa [partsL] using this
       have hbit : ∀ js : List Nat, (bitsI js).length = 2 ^ js.length := by
         intro js
         induction js with
         | nil => rfl
         | cons j js ih => simp [bitsI, ih, Nat.pow_succ]; omega
       have hlen2 : es2.length ≤ 64 * 8 := by
         have h1 := congrArg List.length hD2
         rw [List.length_map, List.length_map] at h1
         rw [h1, List.length_flatMap]
         have h2 : ∀ l : List (List Nat), (∀ v ∈ l, v.length = n) → (l.map fun a => (bitsI a).length).sum ≤ l.length * 8 := by
           intro l
           induction l with
           | nil => intro _; simp
           | cons a l ih =>
             intro hl
             have h3 := ih (fun v hv => hl v (by simp [hv]))
             have h4 : (bitsI a).length ≤ 8 := by
               rw [hbit, hl a (by simp)]
               have : 2 ^ n ≤ 2 ^ 3 := Nat.pow_le_pow_right (by decide) (by omega)
               omega
             rw [List.map_cons, List.sum_cons, List.length_cons]
             omega
         have h5 := h2 (I.take m) (fun v hv => (f2 v (List.mem_of_mem_take hv)).1)
         have h6 : (I.take m).length ≤ 64 := by rw [List.length_take]; omega
         omega
       have hlen3 : es1.length ≤ 8 := by
         rw [hlen1, hbit, fv]
         have : 2 ^ n ≤ 2 ^ 3 := Nat.pow_le_pow_right (by decide) (by omega)
         omega
       obtain ⟨v9, H9, b9, e9, hG9, hx9⟩ := hG2.appendL (lim := lim) (w := w) (es2 := es1) (H0 := Hr) (by omega) hx6 (Nat.le_refl _) hn6 (hx7.trans hx8) hG1.slb.1 (fun y hy => by
         obtain ⟨c, d, k1, k2, k3, k4, k5, k6, k7, k8⟩ := hG1.el y hy
         have hlow := hG2.low
         refine ⟨c, d, k1, k2, ?_, k4, ?_, k6, ?_⟩
         · rcases k3 with ⟨⟨h, _⟩, _⟩ | h <;> omega
         · rcases k5 with ⟨⟨h, _⟩, _⟩ | h <;> omega
         · rcases hG2.st with hz | hz
           · exact .inl hz
           · right
             refine ⟨?_, ?_⟩
             · rcases k3 with ⟨⟨_, h⟩, _⟩ | h <;> omega
             · rcases k5 with ⟨⟨_, h⟩, _⟩ | h <;> omega) (by omega)
       refine s_reg1 ?_
       simp only [o_pure, o_eff, o_nil, POp.ev, Opd.ev, EOp.ev, gv, setD, List.set, xsj, xel, e9]
       simp +decide only [pqn, pbn]
       refine s_reg1 ?_
       simp only [o_pure, o_nil, POp.ev, Opd.ev, gv, setD, List.set, xsj, xel, binV, ne_eq, xnt, if_false, add1 (i := m) (by omega)]
       simp +decide only [pqn]
       refine Round.mk (j2 - 1) (by omega) ⟨m + 1, es2 ++ es1, b9, v9, _, _, _, by omega, hG9, ?_, hx9, rfl⟩
       rw [List.map_append, hD2, de1, hIt, List.flatMap_append, List.map_append]
       congr 1
       simp only [List.flatMap_cons, List.flatMap_nil, List.append_nil, partsL, List.nil_append]
       rfl
     · have hm : m = es.length := by have := of_decide_eq_false hlt2; omega
       subst hm
       have hw1 : IntKind.i64.wrap ((j : Int) - 1) = ((j - 1 : Nat) : Int) := by rw [show (j : Int) - 1 = ((j - 1 : Nat) : Int) by omega]; exact wr_nat (by omega)
       refine s_exit1 ?_
       simp +decide only [pqn, pqe, pbe, reduceIte]
       refine s_reg1 ?_
       simp only [o_pure, o_nil, POp.ev, Opd.ev, gv, setD, List.set, xsj, xel]
       simp +decide only [pqn, pbn]
       refine s_reg1 ?_
       simp only [o_pure, o_nil, POp.ev, Opd.ev, gv, setD, List.set, xsj, xel, binV, ne_eq, xnt, if_false, hw1]
       simp +decide only [pqn]
       rw [List.take_of_length_le (by omega), ← hnext] at hD2
       exact Round.mk (j - 1) (by omega) ⟨r + 1, es2, bn, nx, _, _, _, _, _, _, _, by omega, hG2.lower (by have := hG2.low; omega) (fun _ _ h => h), hD2, hxr.trans hx6, rfl⟩
   · have hj : j = 0 := by have := of_decide_eq_false hlt; omega
     subst hj
     have hrt : r = t := by omega
     subst hrt
     refine s_exit1 ?_
     simp +decide only [pqn, pqe, pbe, reduceIte]
     exact ⟨es, b, list, _, _, _, _, _, _, _, hG, hD, hxr, rfl⟩
 · rintro e' Hs ⟨es, b, list, x6, x7, x8, x9, x13, x14, x15, hG, hD, hxs, rfl⟩
   have hns := hxs.next
   obtain ⟨f1, f2⟩ := fidx t (by omega)
   have hsort := sort_grid ⟨n, by omega⟩ ⟨t, by omega⟩
   simp only at hsort
   have hlen : es.length = (idxL n t).length := by have := congrArg List.length hD; simpa using this
   generalize idxL n t = I at *
   have hin : ∀ (l : List (List Nat)), (∀ v ∈ l, v ∈ I) → ∀ v ∈ l.foldl (insL lexB) [], v ∈ I := by
     have h0 : ∀ (l acc : List (List Nat)), (∀ v ∈ l, v ∈ I) → (∀ v ∈ acc, v ∈ I) → ∀ v ∈ l.foldl (insL lexB) acc, v ∈ I := by
       intro l
       induction l with
       | nil => intro acc _ h; exact h
       | cons a l ih =>
         intro acc h1 h2
         refine ih _ (fun v hv => h1 v (by simp [hv])) (fun v hv => ?_)
         unfold insL at hv
         rcases List.mem_append.1 hv with hv | hv
         · exact h2 v (List.mem_of_mem_take hv)
         · rcases List.mem_cons.1 hv with rfl | hv
           · exact h1 _ (by simp)
           · exact h2 v (List.mem_of_mem_drop hv)
     exact fun l h => h0 l [] h (by simp)
   have hfl : ∀ (l acc : List (List Nat)), (l.foldl (insL lexB) acc).length = acc.length + l.length := by
     intro l
     induction l with
     | nil => intro acc; simp
     | cons a l ih =>
       intro acc
       rw [List.foldl_cons, ih]
       simp [insL]
       omega
   refine s_reg ?_
   simp only [o_pure, o_nil, POp.ev, Opd.ev, setD, List.set, xsj, xel]
   refine s_assoc (s_reg ?_)
   simp only [o_pure, o_nil, POp.ev, Opd.ev, gv, setD, List.set, xsj, xel, hG.slb.lenV]
   refine s_block ?_
   refine s_loop1 (fun j e' H' => ∃ (m : Nat) (eo : List BX) (bo : Nat) (out x11 x12 : Value), m + j = es.length ∧ GrowB H' Hs.next (H.next ≤ ·) bo out eo ∧ eo.map dat = ((I.take m).foldl (insL lexB) []).map (boxI K t L U) ∧ Ext Hs H' ∧ e' = [.agg #[.int .i64 (K : Int), s, u], .int .i64 0, .pointer (some ⟨H.next, 0, none⟩), .slice none 0 0, .bool false, list, x6, x7, x8, x9, out, x11, x12, x13, x14, x15, list, .int .i64 es.length, .int .i64 m]) es.length ⟨0, [], Hs.next, .slice none 0 0, _, _, by omega, GrowB.nilL Hs Hs.next Hs.next _ (Nat.le_refl _), rfl, Ext.refl _, rfl⟩ ?_
   rintro j e' H6 ⟨m, eo, bo, out, x11, x12, hmj, hO, hDo, hx6, rfl⟩
   have hn6 := hx6.next
   refine s_test ?_
   simp only [o_pure, o_nil, POp.ev, Opd.ev, gv, setD, xsj, xel, binV, ne_eq, xnt, if_false]
   refine Test.split (fun hlt2 => ?_) (fun hlt2 => ?_)
   · have hm : m < es.length := by have := of_decide_eq_true hlt2; omega
     have hmI : m < I.length := by omega
     obtain ⟨o1, o2, u1, u2⟩ := hG.slb.at hm
     have hdx := map_get hD hm (by rw [List.length_map]; exact hmI)
     rw [List.getElem_map] at hdx
     obtain ⟨fv, fi⟩ := f2 _ (List.getElem_mem hmI)
     have hIt := List.take_succ_eq_append_getElem hmI
     have hOI := hin (I.take m) (fun v hv => List.mem_of_mem_take hv)
     have hOl := hfl (I.take m) []
     rw [List.length_nil, Nat.zero_add, List.length_take, Nat.min_eq_left (by omega)] at hOl
     have hfold : (I.take (m + 1)).foldl (insL lexB) [] = insL lexB ((I.take m).foldl (insL lexB) []) I[m] := by rw [hIt, List.foldl_append]; rfl
     generalize (I.take m).foldl (insL lexB) [] = O at *
     generalize hvv : I[m] = vv at *
     have heol : eo.length = O.length := by have := congrArg List.length hDo; simpa using this
     obtain ⟨c, d, g1, g2, g3, g4, g5, g6, g7, g8⟩ := hG.el _ (List.getElem_mem hm)
     generalize es[m] = x at *
     obtain ⟨gx, gxl⟩ := box_good (K := K) (t := t) hL hU (by omega) (by omega) (by omega) hr fv fi
     rw [← hdx] at gx gxl
     simp only [dat] at gx gxl
     obtain ⟨_, r2, _, _, r5, r6, r7⟩ := goodB_small gx
     refine s_skip1 ?_
     simp +decide only [pqn]
     refine s_block1 ?_
     refine s_reg ?_
     have hst : storeH lim (H6.alloc [.int .i64 0, .slice none 0 0, .slice none 0 0]) 3 (.pointer (some ⟨H6.next, 0, none⟩)) (bxv x) = some (undef, H6.alloc [.int .i64 (x.k : Int), x.s, x.t]) := store3_new (by omega)
     simp only [o_pure, o_eff, o_nil, POp.ev, Opd.ev, EOp.ev, gv, setD, List.set, xsj, xel, u1, u2 H6 hx6, hst]
     have hx7 := Ext.alloc H6 [.int .i64 (x.k : Int), x.s, x.t]
     have hb7 : (H6.alloc [.int .i64 (x.k : Int), x.s, x.t]).blk H6.next = some [.int .i64 (x.k : Int), x.s, x.t] := alloc_new _ _
     have hl7 : H6.next < (H6.alloc [.int .i64 (x.k : Int), x.s, x.t]).next := Nat.lt_succ_self _
     generalize H6.alloc [.int .i64 (x.k : Int), x.s, x.t] = H7 at hx7 hb7 hl7 ⊢
     generalize H6.next = px at hb7 hl7 hn6 ⊢
     have hn7 := hx7.next
     have hx67 := hx6.trans hx7
     have hO7 := hO.ext hx7
     refine s_reg ?_
     simp only [o_pure, o_nil, POp.ev, Opd.ev, gv, setD, List.set, xsj, xel, hO7.slb.lenV]
     refine s_cut (fun e' H' => Ext H7 H' ∧ e' = [.agg #[.int .i64 (K : Int), s, u], .int .i64 0, .pointer (some ⟨H.next, 0, none⟩), .slice none 0 0, .bool false, list, x6, x7, x8, x9, out, .pointer (some ⟨px, 0, none⟩), .int .i64 (cutAt lexB vv O O.length : Nat), x13, x14, x15, list, .int .i64 es.length, .int .i64 m]) ?_ ?_
     · refine s_block1 ?_
       refine s_loop1 (fun k e' H' => k ≤ O.length ∧ cutAt lexB vv O O.length = cutAt lexB vv O k ∧ Ext H7 H' ∧ e' = [.agg #[.int .i64 (K : Int), s, u], .int .i64 0, .pointer (some ⟨H.next, 0, none⟩), .slice none 0 0, .bool false, list, x6, x7, x8, x9, out, .pointer (some ⟨px, 0, none⟩), .int .i64 (k : Nat), x13, x14, x15, list, .int .i64 es.length, .int .i64 m]) eo.length ⟨by omega, by rw [heol], Ext.refl _, rfl⟩ ?_
       rintro k e' H8 ⟨hk, hcut, hx8, rfl⟩
       have hn8 := hx8.next
       refine s_test_I (decide (0 < k) && lexB vv (O.getD (k - 1) [])) (Ext H8) ?_ (fun H9 hx9 hgt => ?_) (fun H9 hx9 hgt => ?_)
       · by_cases hk0 : 0 < k
         · obtain ⟨k', rfl⟩ : ∃ k', k = k' + 1 := ⟨k - 1, by omega⟩
           have d0 : decide (((k' + 1 : Nat) : Int) > 0) = true := decide_eq_true (by omega)
           have w1 : IntKind.i64.wrap (((k' + 1 : Nat) : Int) - 1) = (k' : Int) := by rw [show ((k' + 1 : Nat) : Int) - 1 = (k' : Int) by omega]; exact wr_nat (by omega)
           have hke : k' < eo.length := by omega
           have hkO : k' < O.length := by omega
           obtain ⟨p1, p2, y1, y2⟩ := hO7.slb.at hke
           have hdy := map_get hDo hke (by rw [List.length_map]; exact hkO)
           rw [List.getElem_map] at hdy
           obtain ⟨fw, fj⟩ := f2 _ (hOI _ (List.getElem_mem hkO))
           obtain ⟨gy, gyl⟩ := box_good (K := K) (t := t) hL hU (by omega) (by omega) (by omega) hr fw fj
           have hbef := bef_box (K := K) (t := t) hr (by omega) (show vv.length = L.length by omega) (show O[k'].length = L.length by omega)
           rw [← hdy] at gy gyl hbef
           rw [← hdx] at hbef
           simp only [dat] at gy gyl hbef
           obtain ⟨_, t2, _, _, t5, t6, t7⟩ := goodB_small gy
           have hsl := hO7.slb.2 _ (List.getElem_mem hke)
           have hb8 : H8.blk px = some [.int .i64 (x.k : Int), x.s, x.t] := by rw [hx8.blk _ hl7]; exact hb7
           have gO : O.getD (k' + 1 - 1) [] = O[k'] := by simp [hkO]
           simp only [o_pure, o_callF, o_guard, gk_tt, POp.ev, Opd.ev, gv, setD, List.map, xsj, xel, binV, ne_eq, xnt, if_false, d0, load3 hb8, w1, y1, y2 H8 hx8]
           refine (bxBefore_ok lim _ (bxv eo[k']) x.k eo[k'].k x.lo x.hi eo[k'].lo eo[k'].hi H8 (by omega) ⟨x.s, x.t, rfl, Vec.sl (Vec.ext g1 (hx67.trans hx8)), Vec.sl (Vec.ext g2 (hx67.trans hx8))⟩ ⟨_, _, rfl, SlI.ext hsl.1 hx8, SlI.ext hsl.2 hx8⟩ (by omega) (by omega) (by omega) (by omega) (fun z hz => by have := r6 z hz; omega) (fun z hz => by have := t6 z hz; omega)).mono ?_
           rw [hbef]
           rintro _ H9 ⟨rfl, hx9⟩
           simp only [o_cont, o_pure, o_nil, POp.ev, Opd.ev, gv, setD, xsj, xel, pickV]
           rw [gO]
           exact ⟨by simp, trivial, hx9⟩
         · have hk0' : k = 0 := by omega
           subst hk0'
           have d0 : decide (((0 : Nat) : Int) > 0) = false := by decide
           simp only [o_pure, o_guard, gk_ft, o_nil, POp.ev, Opd.ev, gv, setD, xsj, xel, pickV, binV, ne_eq, xnt, if_false, d0]
           exact ⟨by simp, trivial, Ext.refl _⟩
       · simp only [Bool.and_eq_true, decide_eq_true_eq] at hgt
         obtain ⟨k', rfl⟩ : ∃ k', k = k' + 1 := ⟨k - 1, by omega⟩
         have hkO : k' < O.length := by omega
         have w1 : IntKind.i64.wrap (((k' + 1 : Nat) : Int) - 1) = (k' : Int) := by rw [show ((k' + 1 : Nat) : Int) - 1 = (k' : Int) by omega]; exact wr_nat (by omega)
         have gO : O.getD (k' + 1 - 1) [] = O[k'] := by simp [hkO]
         rw [gO] at hgt
         rw [cut_step lexB vv O hkO, if_pos hgt.2] at hcut
         refine s_skip1 ?_
         simp +decide only [pqn]
         refine s_block1 ?_
         refine s_reg1 ?_
         simp only [o_pure, o_nil, POp.ev, Opd.ev, gv, setD, List.set, xsj, xel, binV, ne_eq, xnt, if_false, w1]
         simp +decide only [pqn, pbn]
         exact Round.mk k' (by omega) ⟨by omega, hcut, hx8.trans hx9, rfl⟩
       · refine s_exit1 ?_
         simp +decide only [pqn, pqe, pbe, reduceIte]
         have hck : cutAt lexB vv O k = k := by
           cases k with
           | zero => rfl
           | succ k' =>
             have hkO : k' < O.length := by omega
             have gO : O.getD (k' + 1 - 1) [] = O[k'] := by simp [hkO]
             rw [gO] at hgt
             rw [cut_step lexB vv O hkO, if_neg]
             simpa using hgt
         rw [hcut, hck]
         exact ⟨hx8.trans hx9, rfl⟩
     · rintro e' G ⟨hxG, rfl⟩
       have hnG := hxG.next
       have hcl := cut_le lexB vv O O.length (Nat.le_refl _)
       generalize hke : cutAt lexB vv O O.length = k at hcl ⊢
       have hxg := hx67.trans hxG
       have hOG := hO7.ext hxG
       obtain ⟨w1, a1, hw1⟩ := slb_take hOG.slb.1 (k := k) (by omega)
       obtain ⟨w2, a2, hw2⟩ := slb_drop hOG.slb.1 (k := k) (by omega)
       have hbG : G.blk px = some [.int .i64 (x.k : Int), x.s, x.t] := by rw [hxG.blk _ hl7]; exact hb7
       have hcvx : cellsV x.s = some [x.s] := Vec.cellsV g1
       have hcvy : cellsV x.t = some [x.t] := Vec.cellsV g2
       have hbx : ∀ Hq : AHeap, bsliceH Hq 1 [.int .i64 0, .slice none 0 0, .slice none 0 0] [(0, 3, .agg #[.int .i64 (x.k : Int), x.s, x.t])] = some (.slice (some ⟨Hq.next, 0, some 0⟩) 1 1, Hq.alloc (bxc x)) := fun Hq => bslice_box Hq x hcvx hcvy
       have hb0 : ∀ Hq : AHeap, bsliceH Hq 0 [] [] = some (.slice (some ⟨Hq.next, 0, some 0⟩) 0 0, Hq.alloc []) := fun Hq => bslice0 Hq
       obtain ⟨⟨p1, p2, p3, p4, p5, p6, p7, p8, p9, p10, p11, p12, p13⟩, ⟨q1, q2, q3, q4, q5, q6, q7, q8, q9, q10, q11, q12⟩, ⟨z1, z2, z3, z4, z5, z6, z7, z8, z9, z10, z11, z12⟩⟩ := ins_all (lim := lim) (lo := Hs.next) (P := (H.next ≤ ·)) (Hs := Hs) (G := G) (w1 := w1) (w2 := w2) (es := eo) (x := x) (k := k) (by omega) (Nat.le_refl _) (by omega) hxg (Vec.ext g1 hxg) (Vec.ext g2 hxg) g3 (by omega) g5 (by omega) hw1 hw2 (fun y hy => by
         obtain ⟨c, d, k1, k2, k3, k4, k5, k6, _⟩ := hOG.el y hy
         exact ⟨c, d, k1, k2, k3, k4, k5, k6⟩) (by omega)
       refine s_regT_cut (fun e' H' => ∃ (a3 : Value) (b3 : Nat), GrowB H' Hs.next (H.next ≤ ·) b3 a3 (eo.take k ++ x :: eo.drop k) ∧ Ext G H' ∧ e' = [.agg #[.int .i64 (K : Int), s, u], .int .i64 0, .pointer (some ⟨H.next, 0, none⟩), .slice none 0 0, .bool false, list, x6, x7, x8, x9, a3, .pointer (some ⟨px, 0, none⟩), .int .i64 (k : Nat), x13, x14, x15, list, .int .i64 es.length, .int .i64 m]) ?_ ?_
       · have hxa := Ext.alloc G ([] : List Value)
         have hla : px < G.next := by omega
         have hbA : (G.alloc []).blk px = some [.int .i64 (x.k : Int), x.s, x.t] := by rw [hxa.blk _ hla]; exact hbG
         have hbP : p2.blk px = some [.int .i64 (x.k : Int), x.s, x.t] := by rw [p13.blk _ hla]; exact hbG
         simp only [o_pure, o_eff, t_op, t_alt, t_nil, o_nil, POp.ev, Opd.ev, EOp.ev, gv, setD, List.set, List.map, Option.map_none, xms, xsj, xel, a1, a2, hb0, load3 hbG, load3 hbA, load3 hbP, hbx, p8, p9, p10, q8, q9, q10, z8, z9, z10]
         repeat' apply And.intro
         all_goals first
           | exact ⟨p5, p7, p11, p12, rfl⟩
           | exact ⟨q5, q7, q11, q12, rfl⟩
           | exact ⟨z5, z7, z11, z12, rfl⟩
       · rintro e' H9 ⟨a3, b3, hG3, hx9, rfl⟩
         refine s_reg1 ?_
         simp only [o_pure, o_nil, POp.ev, Opd.ev, gv, setD, List.set, xsj, xel, binV, ne_eq, xnt, if_false, add1 (i := m) (by omega)]
         simp +decide only [pqn]
         refine Round.mk (j - 1) (by omega) ⟨m + 1, _, b3, a3, _, _, by omega, hG3, ?_, hxg.trans hx9, rfl⟩
         rw [hfold, insL, hke, List.map_append, List.map_cons, List.map_append, List.map_cons, List.map_take, List.map_drop, hDo, hdx, List.map_take, List.map_drop]
   · have hm : m = es.length := by have := of_decide_eq_false hlt2; omega
     subst hm
     refine s_exit1 ?_
     simp +decide only [pqn, pqe, pbe, reduceIte]
     refine s_reg ?_
     simp only [o_pure, o_nil, POp.ev, Opd.ev, gv, setD, List.set, xsj, xel]
     refine s_ret1 ?_
     simp +decide only [pfr, resV, resOne, resL, gv, xsj, xel, Option.bind_some, xms]
     rw [List.take_of_length_le (by omega)] at hDo
     rw [← hsort]
     exact ⟨⟨out, eo, bo, rfl, hDo, hO.lower (by have := hO.low; omega) (fun _ _ h => h)⟩, hxs.trans hx6⟩
def sclI (t : Nat) (l : List Int) : List Int := l.map (· * 2 ^ t)
theorem sclI_length (t : Nat) (l : List Int) : (sclI t l).length = l.length := by simp [sclI]
theorem scaled_ok (lim : Nat) (s : Value) (l : List Int) (t : Nat) (H : AHeap) (hl : lim ≤ H.next) (hs : SlI H s l) (hn : l.length ≤ 900) (ht : t ≤ 2) (hsm : Sm l) :
   ACalls Tryz.prog lim n_impl_scaled [s, .int .i64 t] H fun v H' => (∃ b, H.next ≤ b ∧ VecI H' b v (sclI t l)) ∧ Ext H H' := by
 refine is_impl_scaled.go rfl ?_
 unfold c_impl_scaled
 refine s_reg ?_
 simp only [o_pure, o_nil, POp.ev, Opd.ev, env0, gu, setD, List.set, xsj, xel]
 refine s_reg ?_
 simp only [o_pure, o_nil, POp.ev, Opd.ev, setD, List.set, xsj, xel]
 refine s_assoc (s_reg ?_)
 simp only [o_pure, o_nil, POp.ev, Opd.ev, gv, setD, List.set, xsj, xel, hs.lenV]
 refine s_block ?_
 have hs0 : ¬ ((t : Int) < 0) := by omega
 have hmin : min ((t : Int)).toNat IntKind.i64.bits = t := by
   show min ((t : Int)).toNat 64 = t
   omega
 refine s_loop1 (fun j e' H' => ∃ (i b : Nat) (out x4 : Value), i + j = l.length ∧ VecI H' b out (sclI t (l.take i)) ∧ H.next ≤ b ∧ Ext H H' ∧ e' = [s, .int .i64 t, .slice none 0 0, out, x4, s, .int .i64 l.length, .int .i64 i]) l.length ⟨0, H.next, .slice none 0 0, _, by omega, Vec.nil _ _ _, Nat.le_refl _, Ext.refl _, rfl⟩ ?_
 rintro j e' H2 ⟨i, b, out, x4, hij, hv, hb, hx, rfl⟩
 have hnx := hx.next
 refine s_test ?_
 simp only [o_pure, o_nil, POp.ev, Opd.ev, gv, setD, xsj, xel, binV, ne_eq, xnt, if_false]
 refine Test.split (fun hlt => ?_) (fun hlt => ?_)
 · have hlt' : i < l.length := by simpa using hlt
   obtain ⟨b1, o1, u1, u2⟩ := ints_at (SlI.ext hs hx) hlt'
   have g1 : l.getD i 0 = l[i] := by simp [hlt']
   rw [g1] at u2
   have m1 := hsm.get hlt'
   have hp : (2 : Int) ^ t ≤ 4 := pow_le2 ht
   have hp1 := pow_pos2 t
   have w1 : IntKind.i64.wrap (l[i] * 2 ^ t) = l[i] * 2 ^ t := by
     have h3 : t = 0 ∨ t = 1 ∨ t = 2 := by omega
     rcases h3 with rfl | rfl | rfl
     · exact wr_id (by omega) (by omega)
     · exact wr_id (by omega) (by omega)
     · exact wr_id (by omega) (by omega)
   obtain ⟨v', H3, b', e1, e2, e3, e4, e5, e6⟩ := push1 (lim := lim) (bytes := 8) hv (vi (l[i] * 2 ^ t)) (by omega) (by rw [sclI_length, List.length_take]; omega)
   refine s_skip1 ?_
   simp +decide only [pqn]
   refine s_block1 ?_
   refine s_reg ?_
   simp only [o_pure, o_nil, POp.ev, Opd.ev, gv, setD, List.set, xsj, xel, load1V, u1, u2]
   refine s_reg1 ?_
   simp only [o_pure, o_eff, o_nil, POp.ev, Opd.ev, EOp.ev, gv, setD, List.set, List.map, xsj, xel, binV, if_false, hs0, hmin, w1, bsliceV _ (.int .i64 0) (x := .int .i64 (l[i] * 2 ^ t)) rfl, e1]
   simp +decide only [pqn, pbn]
   refine s_reg1 ?_
   simp only [o_pure, o_nil, POp.ev, Opd.ev, gv, setD, List.set, xsj, xel, binV, ne_eq, xnt, if_false, add1 (i := i) (by omega)]
   simp +decide only [pqn]
   refine Round.mk (j - 1) (by omega) ⟨i + 1, b', v', _, by omega, ?_, by rcases e3 with h | h <;> omega, Chg.ext hx e5 hb, rfl⟩
   rw [List.take_succ_eq_append_getElem hlt', sclI, List.map_append]
   exact VecI.snoc e2
 · have hge : i = l.length := by simp at hlt; omega
   subst hge
   refine s_exit1 ?_
   simp +decide only [pqn, pqe, pbe, reduceIte]
   refine s_reg ?_
   simp only [o_pure, o_nil, POp.ev, Opd.ev, gv, setD, List.set, xsj, xel]
   refine s_ret1 ?_
   simp +decide only [pfr, resV, resOne, gv, xsj, xel]
   rw [List.take_length] at hv
   exact ⟨⟨b, hb, hv⟩, hx⟩
theorem length_ok (lim q i : Nat) (k : Int) (bl bu : Value) (L U : List Int) (H : AHeap) (hv : BoxP H q k bl bu L U) (hi : i < L.length) (hlen : U.length = L.length) (s1 : Sm L) (s2 : Sm U) :
   ACalls Tryz.prog lim n_impl_Box_length [.pointer (some ⟨q, 0, none⟩), .int .i64 i] H fun v H' => v = .int .i64 (U.getD i 0 - L.getD i 0) ∧ H' = H := by
 refine is_impl_Box_length.go rfl ?_
 unfold c_impl_Box_length
 obtain ⟨b1, o1, u1, u2⟩ := ints_at hv.low hi
 obtain ⟨b2, o2, y1, y2⟩ := ints_at hv.high (show i < U.length by omega)
 have m1 := s1.get hi
 have m2 := s2.get (show i < U.length by omega)
 have g1 : L.getD i 0 = L[i] := by simp [hi]
 have g2 : U.getD i 0 = U[i]'(by omega) := by simp [show i < U.length by omega]
 have w1 : IntKind.i64.wrap (U.getD i 0 - L.getD i 0) = U.getD i 0 - L.getD i 0 := by rw [g1, g2]; exact wr_id (by omega) (by omega)
 refine s_reg ?_
 simp only [o_pure, o_nil, POp.ev, Opd.ev, env0, gu, setD, List.set, xsj, xel]
 refine s_reg ?_
 simp only [o_pure, o_nil, POp.ev, Opd.ev, gv, setD, List.set, xsj, xel, binV, load1V, nilchkV, fadV, ne_eq, xnt, if_false, xgz, xgs, Nat.zero_add, cell_blk hv.blk, u1, u2, y1, y2, w1]
 refine s_ret1 ?_
 simp +decide only [pfr, resV, resOne, gv, xsj, xel]
theorem GrowB.set {lim : Nat} {H : AHeap} {lo b : Nat} {P : Nat → Prop} {v : Value} {es : List BX} (h : GrowB H lo P b v es) (hlim : lim ≤ lo) {i : Nat} (hi : i < es.length) {y : BX} {c d : Nat} (hc : VecI H c y.s y.lo) (hd : VecI H d y.t y.hi) (c1 : P c) (c2 : c < H.next) (d1 : P d) (d2 : d < H.next) (cb : c ≠ b) (db : d ≠ b) :
   iadV 3 v (.int .i64 i) = some (.pointer (some ⟨b, i * 3, none⟩)) ∧ ∃ cs, storeH lim H 3 (.pointer (some ⟨b, i * 3, none⟩)) (bxv y) = some (undef, H.put b cs) ∧ GrowB (H.put b cs) lo P b v (es.set i y) := by
 refine ⟨Vec.iad h.vec .i64 hi, ?_⟩
 have hlow := h.low
 obtain ⟨cs, h1, h2⟩ := h.vec.put (lim := lim) (by omega) (cells_bxv y) rfl (by simp [bxc]) (o := i * 3) (by simp [bxc]; omega)
 rw [bxs_set y hi] at h2
 have hch : Chg b H (H.put b cs) := Chg.put _ _ _
 refine ⟨cs, h1, ⟨by rw [List.length_set]; exact h2, h.low, .inr ?_, fun x hx => ?_⟩⟩
 · rcases h.st with ⟨_, rfl⟩ | hb
   · simp at hi
   · exact hb
 · rcases List.mem_or_eq_of_mem_set hx with hx | rfl
   · obtain ⟨c', d', k1, k2, k3, k4, k5, k6, k7, k8⟩ := h.el x hx
     exact ⟨c', d', Vec.chg k1 hch k7, Vec.chg k2 hch k8, k3, k4, k5, k6, k7, k8⟩
   · exact ⟨c, d, Vec.chg hc hch cb, Vec.chg hd hch db, c1, c2, d1, d2, cb, db⟩
theorem lowR_snoc (t : Nat) : ∀ (av hs : List Int) (v : List Nat) (a h : Int) (p : Nat), hs.length = av.length → v.length = av.length → lowR t (av ++ [a]) (hs ++ [h]) (v ++ [p]) = lowR t av hs v ++ [2 ^ t * a + p * (h - a)]
 | [], hs, v, a, h, p, h1, h2 => by
   have e1 : hs = [] := List.length_eq_zero_iff.1 (by simpa using h1)
   have e2 : v = [] := List.length_eq_zero_iff.1 (by simpa using h2)
   subst e1 e2
   rfl
 | x :: av, [], _, _, _, _, h1, _ => by simp at h1
 | x :: av, y :: hs, [], _, _, _, _, h2 => by simp at h2
 | x :: av, y :: hs, i :: v, a, h, p, h1, h2 => by
   simp only [List.cons_append, lowR]
   rw [lowR_snoc t av hs v a h p (by simpa using h1) (by simpa using h2)]
theorem highR_snoc (t : Nat) : ∀ (av hs : List Int) (v : List Nat) (a h : Int) (p : Nat), hs.length = av.length → v.length = av.length → highR t (av ++ [a]) (hs ++ [h]) (v ++ [p]) = highR t av hs v ++ [2 ^ t * a + (p + 1) * (h - a)]
 | [], hs, v, a, h, p, h1, h2 => by
   have e1 : hs = [] := List.length_eq_zero_iff.1 (by simpa using h1)
   have e2 : v = [] := List.length_eq_zero_iff.1 (by simpa using h2)
   subst e1 e2
   rfl
 | x :: av, [], _, _, _, _, h1, _ => by simp at h1
 | x :: av, y :: hs, [], _, _, _, _, h2 => by simp at h2
 | x :: av, y :: hs, i :: v, a, h, p, h1, h2 => by
   simp only [List.cons_append, highR]
   rw [highR_snoc t av hs v a h p (by simpa using h1) (by simpa using h2)]
def mixL (t i : Nat) (L U : List Int) (v : List Nat) : List Int := lowR t (L.take i) (U.take i) v ++ sclI t (L.drop i)
def mixH (t i : Nat) (L U : List Int) (v : List Nat) : List Int := highR t (L.take i) (U.take i) v ++ sclI t (U.drop i)
theorem set_at {x y : List Int} {a b : Int} {n : Nat} (h : x.length = n) : (x ++ a :: y).set n b = x ++ b :: y := by subst h; exact set_mid x y a b
theorem get_at {x y : List Int} {a : Int} {n : Nat} (h : x.length = n) : (x ++ a :: y).getD n 0 = a := by subst h; exact getD_mid x y a
theorem mix_len {t i n : Nat} {L U : List Int} {v : List Nat} (hL : L.length = n) (hU : U.length = n) (hi : i ≤ n) (hv : v.length = i) : (mixL t i L U v).length = n ∧ (mixH t i L U v).length = n := by
 have e1 := lowR_length t (L.take i) (U.take i) v (by simp [hL, hU]) (by simp [hL]; omega)
 have e2 := highR_length t (L.take i) (U.take i) v (by simp [hL, hU]) (by simp [hL]; omega)
 rw [List.length_take] at e1 e2
 simp only [mixL, mixH, List.length_append, sclI_length, List.length_drop]
 omega
theorem mix_step {t i n p : Nat} {L U : List Int} {v : List Nat} (hL : L.length = n) (hU : U.length = n) (hi : i < n) (hv : v.length = i) :
   (mixL t i L U v).getD i 0 = L.getD i 0 * 2 ^ t ∧
   (mixL t i L U v).set i (L.getD i 0 * 2 ^ t + p * (U.getD i 0 - L.getD i 0)) = mixL t (i + 1) L U (v ++ [p]) ∧
   (mixL t (i + 1) L U (v ++ [p])).getD i 0 = L.getD i 0 * 2 ^ t + p * (U.getD i 0 - L.getD i 0) ∧
   (mixH t i L U v).set i (L.getD i 0 * 2 ^ t + p * (U.getD i 0 - L.getD i 0) + (U.getD i 0 - L.getD i 0)) = mixH t (i + 1) L U (v ++ [p]) := by
 have hiL : i < L.length := by omega
 have hiU : i < U.length := by omega
 have gL : L.getD i 0 = L[i] := by simp [hiL]
 have gU : U.getD i 0 = U[i] := by simp [hiU]
 have e1 := lowR_length t (L.take i) (U.take i) v (by simp [hL, hU]) (by simp [hL]; omega)
 have e2 := highR_length t (L.take i) (U.take i) v (by simp [hL, hU]) (by simp [hL]; omega)
 rw [List.length_take, Nat.min_eq_left (by omega)] at e1 e2
 have dL : L.drop i = L[i] :: L.drop (i + 1) := List.drop_eq_getElem_cons hiL
 have dU : U.drop i = U[i] :: U.drop (i + 1) := List.drop_eq_getElem_cons hiU
 have tL := List.take_succ_eq_append_getElem hiL
 have tU := List.take_succ_eq_append_getElem hiU
 have c1 : (2 : Int) ^ t * L[i] = L[i] * 2 ^ t := Int.mul_comm _ _
 have c2 : ((p : Int) + 1) * (U[i] - L[i]) = p * (U[i] - L[i]) + (U[i] - L[i]) := by rw [Int.add_mul, Int.one_mul]
 rw [gL, gU]
 unfold mixL mixH
 rw [tL, tU, lowR_snoc _ _ _ _ _ _ _ (by simp [hL, hU]) (by simp [hL]; omega), highR_snoc _ _ _ _ _ _ _ (by simp [hL, hU]) (by simp [hL]; omega), dL, dU, c1, c2]
 simp only [sclI, List.map_cons]
 refine ⟨get_at e1, ?_, ?_, ?_⟩
 · rw [set_at e1, List.append_assoc]
   rfl
 · rw [List.append_assoc]
   exact get_at e1
 · rw [set_at e2, List.append_assoc, Int.add_assoc]
   rfl
theorem Sm.of_good {k : Int} {L U : List Int} (h : goodB k L U = true) : Sm L ∧ Sm U := by
 obtain ⟨_, _, _, _, _, h6, h7⟩ := goodB_small h
 exact ⟨fun x hx => by have := h6 x hx; omega, fun x hx => by have := h7 x hx; omega⟩
theorem mul_small {p t : Nat} {d : Int} (hp : p ≤ 4) (hd : d.natAbs ≤ 8192) : ((p : Int) * d).natAbs ≤ 4 * 8192 := by
 rw [Int.natAbs_mul, Int.natAbs_natCast]
 exact Nat.mul_le_mul hp hd
theorem GrowB.pushX {lim : Nat} {H0 H H2 : AHeap} {lo b c d : Nat} {P : Nat → Prop} {v : Value} {es : List BX} {x : BX} (h : GrowB H lo P b v es) (hlim : lim ≤ lo) (hx0 : Ext H0 H) (hlo : H0.next ≤ lo) (hloH : lo ≤ H.next) (hx : Ext H H2)
   (hc : VecI H2 c x.s x.lo) (hd : VecI H2 d x.t x.hi) (c1 : P c) (c2 : c < H2.next) (d1 : P d) (d2 : d < H2.next) (hcb : (v = .slice none 0 0 ∧ es = []) ∨ c ≠ b ∧ d ≠ b) (hn : es.length ≤ 100000) :
   ∃ v' H3 b', appendH lim (H2.alloc (bxc x)) 3 56 v (.slice (some ⟨H2.next, 0, some 0⟩) 1 1) = some (v', H3) ∧ GrowB H3 lo P b' v' (es ++ [x]) ∧ Ext H0 H3 ∧ (∀ c, c < H2.next → c ≠ b → H3.blk c = H2.blk c) ∧ H2.next ≤ H3.next ∧ (b' = b ∨ H2.next ≤ b') := by
 have hxa := Ext.alloc H2 (bxc x)
 have hna : H2.next < (H2.alloc (bxc x)).next := Nat.lt_succ_self _
 obtain ⟨v', H3, b', g1, g2, g3, g4, g5, g6⟩ := h.appendX hlim hx0 hlo hloH (hx.trans hxa) (es2 := [x]) (Vec.sl (Vec.lit (by simp [bxs, bxc]))) (fun y hy => by
   rw [List.mem_singleton] at hy
   subst hy
   exact ⟨c, d, Vec.ext hc hxa, Vec.ext hd hxa, c1, by omega, d1, by omega, hcb⟩) (by rw [List.length_singleton]; omega)
 exact ⟨v', H3, b', g1, g2, g3, fun c hc' hcb' => by rw [g4 c (by omega) (.inr hcb'), hxa.blk _ hc'], by omega, g6.imp id fun h => by omega⟩
theorem inR_rng {m : Int} {l h : List Int} (hr : rngB m l h = true) (hlen : h.length = l.length) (h0 : 0 ≤ m) (hm : m ≤ 1000000) : InR l ∧ InR h := by
 have hR := rngB_get hr hlen h0
 refine ⟨fun x hx => ?_, fun x hx => ?_⟩
 · obtain ⟨j, hj, rfl⟩ := List.getElem_of_mem hx
   have := hR j
   rw [show l.getD j 0 = l[j] by simp [hj]] at this
   omega
 · obtain ⟨j, hj, rfl⟩ := List.getElem_of_mem hx
   have := hR j
   rw [show h.getD j 0 = h[j] by simp [hj]] at this
   omega
set_option maxHeartbeats 4000000 in
theorem iParts_ok (lim q K t n : Nat) (bl bu : Value) (L U : List Int) (H : AHeap) (hl : lim ≤ H.next) (hv : BoxP H q K bl bu L U) (hq : q < H.next) (hg : goodB K L U = true) (hK : K ≤ 4) (ht : t ≤ 2) (hL : L.length = n) :
   ACalls Tryz.prog lim n_impl_Box_parts [.pointer (some ⟨q, 0, none⟩), .int .i64 t] H fun v H' => (∃ w es b, v = .tuple #[w, .bool true] ∧ es.map dat = (gridI (2 ^ t) n).map (boxI K t L U) ∧ GrowB H' H.next (H.next ≤ ·) b w es) ∧ Ext H H' := by
 obtain ⟨q1, q2, q3, q4, q5, q6, q7⟩ := goodB_small hg
 have hU : U.length = n := by omega
 obtain ⟨sm1, sm2⟩ := Sm.of_good hg
 have hr : rngB (8 * 2 ^ K) L U = true := by
   simp only [goodB, Bool.and_eq_true] at hg
   simpa using hg.1.2
 have hp4 : 2 ^ t ≤ 2 ^ 2 := Nat.pow_le_pow_right (by decide) ht
 have hpi : ((2 ^ t : Nat) : Int) = (2 : Int) ^ t := pow_nat t
 have hp1 := pow_pos2 t
 refine is_impl_Box_parts.go rfl ?_
 unfold c_impl_Box_parts
 refine s_reg ?_
 simp only [o_pure, o_nil, POp.ev, Opd.ev, env0, gu, setD, List.set, xsj, xel]
 refine s_reg ?_
 simp only [o_pure, o_callN, POp.ev, Opd.ev, gv, setD, List.map, xsj, xel, load1V, nilchkV, fadV, xgz, xgs, Nat.zero_add, cell_blk hv.blk]
 refine (scaled_ok _ bl L t H (Nat.le_refl _) hv.low (by omega) ht sm1).use ?_
 rintro s0 H1 ⟨⟨c0, c01, hv0⟩, hx1⟩ _
 have hn1 := hx1.next
 simp only [o_cont, o_callF, Opd.ev, gv, setD, List.map]
 refine (scaled_ok lim bu U t H1 (by omega) (SlI.ext hv.high hx1) (by omega) ht sm2).mono ?_
 rintro u0 H2 ⟨⟨d0, d01, hw0⟩, hx2⟩
 have hn2 := hx2.next
 have hc0 : c0 < H1.next := (Vec.blk hv0 (by rw [sclI_length]; omega)).elim fun _ h => h.2
 have hd0 : d0 < H2.next := (Vec.blk hw0 (by rw [sclI_length]; omega)).elim fun _ h => h.2
 have hf2 : fillV [.int .i64 0, .slice none 0 0, .slice none 0 0] [(1, 1, s0), (2, 1, u0)] = some [.int .i64 0, s0, u0] := by simp [fillV, Vec.cellsV hv0, Vec.cellsV hw0]
 have hb1 := bslice_box H2 ⟨0, s0, u0, sclI t L, sclI t U⟩ (Vec.cellsV hv0) (Vec.cellsV hw0)
 simp only [bxv] at hb1
 have hb1' : bsliceH H2 1 [.int .i64 0, .slice none 0 0, .slice none 0 0] [(0, 3, .agg #[.int .i64 0, s0, u0])] = some (.slice (some ⟨H2.next, 0, some 0⟩) 1 1, H2.alloc (bxc ⟨0, s0, u0, sclI t L, sclI t U⟩)) := hb1
 simp only [o_cont, o_pure, o_eff, o_nil, POp.ev, Opd.ev, EOp.ev, gv, setD, List.set, List.map, xms, xsj, xel, hf2, xms, hb1']
 have hx3 := Ext.alloc H2 (bxc ⟨0, s0, u0, sclI t L, sclI t U⟩)
 have hn3 := hx3.next
 have hx03 := (hx1.trans hx2).trans hx3
 have hG0 : GrowB (H2.alloc (bxc ⟨0, s0, u0, sclI t L, sclI t U⟩)) H.next (H.next ≤ ·) H2.next (.slice (some ⟨H2.next, 0, some 0⟩) 1 1) [⟨0, s0, u0, sclI t L, sclI t U⟩] := by
   refine ⟨by rw [bxs_one]; exact Vec.lit rfl, by omega, .inr (Nat.lt_succ_self _), fun y hy => ?_⟩
   rw [List.mem_singleton] at hy
   subst hy
   exact ⟨c0, d0, Vec.ext hv0 (hx2.trans hx3), Vec.ext hw0 hx3, by omega, by omega, by omega, by omega, by omega, by omega⟩
 have hD0 : ([⟨0, s0, u0, sclI t L, sclI t U⟩] : List BX).map dat = (gridI (2 ^ t) 0).map (fun v => (0, mixL t 0 L U v, mixH t 0 L U v)) := by
   simp [gridI, mixL, mixH, lowR, highR, dat]
 generalize H2.alloc (bxc ⟨0, s0, u0, sclI t L, sclI t U⟩) = H3 at hG0 hx3 hn3 hx03 ⊢
 generalize (Value.slice (some ⟨H2.next, 0, some 0⟩) 1 1) = l0 at hG0 ⊢
 generalize ([⟨0, s0, u0, sclI t L, sclI t U⟩] : List BX) = es0 at hG0 hD0
 generalize H2.next = b0 at hG0
 have hs0 : ¬ ((t : Int) < 0) := by omega
 have hmin : IntKind.i64.wrap (1 * 2 ^ min ((t : Int)).toNat IntKind.i64.bits) = ((2 ^ t : Nat) : Int) := by
   have : min ((t : Int)).toNat IntKind.i64.bits = t := by
     show min ((t : Int)).toNat 64 = t
     omega
   rw [this, Int.one_mul, ← hpi]
   exact wr_nat (by omega)
 have hvq : ∀ G, Ext H G → BoxP G q K bl bu L U := fun G hg => hv.ext hq hg
 refine s_cut (fun e' H' => ∃ (es : List BX) (b : Nat) (out x5 x6 x7 x8 x9 x14 x15 x16 x17 x18 x19 x20 : Value), GrowB H' H.next (H.next ≤ ·) b out es ∧ es.map dat = (gridI (2 ^ t) n).map (fun v => (0, mixL t n L U v, mixH t n L U v)) ∧ Ext H H' ∧ e' = [.pointer (some ⟨q, 0, none⟩), .int .i64 t, .slice none 0 0, .bool false, out, x5, x6, x7, x8, x9, undef, undef, undef, undef, x14, x15, x16, x17, x18, x19, x20, undef, undef, undef]) ?_ ?_
 · refine s_reg ?_
   simp only [o_pure, o_nil, POp.ev, Opd.ev, gv, setD, List.set, xsj, xel, load1V, nilchkV, fadV, xgz, xgs, Nat.zero_add, cell_blk (hvq H3 hx03).blk, hv.low.lenV]
   rw [hL]
   refine s_block1 ?_
   refine s_loop1 (fun j e' H' => ∃ (i : Nat) (es : List BX) (b : Nat) (out x5 x6 x7 x8 x9 x16 x17 x18 x19 x20 : Value), i + j = n ∧ GrowB H' H.next (H.next ≤ ·) b out es ∧ es.map dat = (gridI (2 ^ t) i).map (fun v => (0, mixL t i L U v, mixH t i L U v)) ∧ Ext H H' ∧ e' = [.pointer (some ⟨q, 0, none⟩), .int .i64 t, .slice none 0 0, .bool false, out, x5, x6, x7, x8, x9, undef, undef, undef, undef, .int .i64 n, .int .i64 i, x16, x17, x18, x19, x20, undef, undef, undef]) n ⟨0, es0, b0, l0, _, _, _, _, _, _, _, _, _, _, by omega, hG0, hD0, hx03, rfl⟩ ?_
   clear hG0 hD0 hx03
   rintro j e' Hr ⟨i, es, b, out, x5, x6, x7, x8, x9, x16, x17, x18, x19, x20, hij, hG, hD, hxr, rfl⟩
   have hnr := hxr.next
   refine s_test ?_
   simp only [o_pure, o_nil, POp.ev, Opd.ev, gv, setD, xsj, xel, binV, ne_eq, xnt, if_false]
   refine Test.split (fun hlt => ?_) (fun hlt => ?_)
   · have hi : i < n := by have := of_decide_eq_true hlt; omega
     obtain ⟨f1, f2⟩ := grid_facts ⟨i, by omega⟩ ⟨t, by omega⟩
     simp only at f1 f2
     have hnext : gridI (2 ^ t) (i + 1) = (gridI (2 ^ t) i).flatMap fun l => (List.range (2 ^ t)).map fun p => l ++ [p] := rfl
     have hlen : es.length = (gridI (2 ^ t) i).length := by have := congrArg List.length hD; simpa using this
     generalize gridI (2 ^ t) i = I at *
     refine s_skip1 ?_
     simp +decide only [pqn]
     refine s_block1 ?_
     refine s_reg ?_
     simp only [o_pure, o_nil, POp.ev, Opd.ev, gv, setD, List.set, xsj, xel]
     refine s_reg ?_
     simp only [o_pure, o_nil, POp.ev, Opd.ev, setD, List.set, xsj, xel]
     refine s_assoc (s_reg ?_)
     simp only [o_pure, o_nil, POp.ev, Opd.ev, gv, setD, List.set, xsj, xel, hG.slb.lenV]
     refine s_block ?_
     refine s_loop1 (fun j2 e' H' => ∃ (m : Nat) (es2 : List BX) (bn : Nat) (nx x7 x8 x9 x19 x20 : Value), m + j2 = es.length ∧ GrowB H' Hr.next (H.next ≤ ·) bn nx es2 ∧ es2.map dat = ((I.take m).flatMap fun l => (List.range (2 ^ t)).map fun p => l ++ [p]).map (fun v => (0, mixL t (i + 1) L U v, mixH t (i + 1) L U v)) ∧ Ext Hr H' ∧ e' = [.pointer (some ⟨q, 0, none⟩), .int .i64 t, .slice none 0 0, .bool false, out, .int .i64 i, nx, x7, x8, x9, undef, undef, undef, undef, .int .i64 n, .int .i64 i, out, .int .i64 es.length, .int .i64 m, x19, x20, undef, undef, undef]) es.length ⟨0, [], Hr.next, .slice none 0 0, _, _, _, _, _, by omega, GrowB.nilL Hr Hr.next Hr.next _ (Nat.le_refl _), rfl, Ext.refl _, rfl⟩ ?_
     rintro j2 e' H6 ⟨m, es2, bn, nx, x7, x8, x9, x19, x20, hmj, hG2, hD2, hx6, rfl⟩
     have hn6 := hx6.next
     refine s_test ?_
     simp only [o_pure, o_nil, POp.ev, Opd.ev, gv, setD, xsj, xel, binV, ne_eq, xnt, if_false]
     refine Test.split (fun hlt2 => ?_) (fun hlt2 => ?_)
     · have hm : m < es.length := by have := of_decide_eq_true hlt2; omega
       have hmI : m < I.length := by omega
       obtain ⟨o1, o2, u1, u2⟩ := hG.slb.at hm
       have hdx := map_get hD hm (by rw [List.length_map]; exact hmI)
       rw [List.getElem_map] at hdx
       obtain ⟨fv, fi⟩ := f2 _ (List.getElem_mem hmI)
       have hIt := List.take_succ_eq_append_getElem hmI
       have hl2 : es2.length ≤ 64 * 4 := by
         have h1 := congrArg List.length hD2
         rw [List.length_map, List.length_map] at h1
         rw [h1]
         have h2 := flat_len (fun l : List Nat => (List.range (2 ^ t)).map fun p => l ++ [p]) 4 (fun l => by simp; omega) (I.take m)
         have h3 : (I.take m).length ≤ 64 := by rw [List.length_take]; omega
         omega
       generalize I[m] = vv at *
       obtain ⟨c, d, g1, g2, g3, g4, g5, g6, g7, g8⟩ := hG.el _ (List.getElem_mem hm)
       generalize es[m] = x at *
       obtain ⟨xk, xs, xt, xlo, xhi⟩ := x
       simp only [dat, Prod.mk.injEq] at hdx
       obtain ⟨rfl, rfl, rfl⟩ := hdx
       obtain ⟨ml1, ml2⟩ := mix_len (t := t) hL hU (by omega) fv
       simp only at g1 g2
       refine s_skip1 ?_
       simp +decide only [pqn]
       refine s_block1 ?_
       refine s_reg ?_
       have hst : storeH lim (H6.alloc [.int .i64 0, .slice none 0 0, .slice none 0 0]) 3 (.pointer (some ⟨H6.next, 0, none⟩)) (bxv ⟨0, xs, xt, mixL t i L U vv, mixH t i L U vv⟩) = some (undef, H6.alloc [.int .i64 0, xs, xt]) := store3_new (by omega)
       simp only [o_pure, o_eff, o_nil, POp.ev, Opd.ev, EOp.ev, gv, setD, List.set, xsj, xel, u1, u2 H6 hx6, hst]
       have hx7 := Ext.alloc H6 [.int .i64 0, xs, xt]
       have hb7 : (H6.alloc [.int .i64 0, xs, xt]).blk H6.next = some [.int .i64 0, xs, xt] := alloc_new _ _
       have hl7 : H6.next < (H6.alloc [.int .i64 0, xs, xt]).next := Nat.lt_succ_self _
       generalize H6.alloc [.int .i64 0, xs, xt] = H7 at hx7 hb7 hl7 ⊢
       generalize hpx : H6.next = px at hb7 hl7 ⊢
       have hn7 := hx7.next
       have hx67 := hx6.trans hx7
       obtain ⟨bn', hG7, hne7⟩ : ∃ bn', GrowB H7 Hr.next (H.next ≤ ·) bn' nx es2 ∧ px ≠ bn' := by
         rcases hG2.st with ⟨rfl, rfl⟩ | hb
         · exact ⟨px + 1, GrowB.nilL H7 Hr.next (px + 1) _ (by omega), by omega⟩
         · exact ⟨bn, hG2.ext hx7, by omega⟩
       refine s_reg ?_
       simp only [o_pure, o_nil, POp.ev, Opd.ev, gv, setD, List.set, xsj, xel, binV, if_false, hs0, hmin]
       refine s_block1 ?_
       refine s_loop1 (fun j3 e' H' => ∃ (p : Nat) (es3 : List BX) (bn : Nat) (nx x8 x9 : Value), p + j3 = 2 ^ t ∧ GrowB H' Hr.next (H.next ≤ ·) bn nx (es2 ++ es3) ∧ es3.map dat = ((List.range p).map fun p => vv ++ [p]).map (fun v => (0, mixL t (i + 1) L U v, mixH t (i + 1) L U v)) ∧ Ext Hr H' ∧ H'.blk px = some [.int .i64 0, xs, xt] ∧ px ≠ bn ∧ px < H'.next ∧ e' = [.pointer (some ⟨q, 0, none⟩), .int .i64 t, .slice none 0 0, .bool false, out, .int .i64 i, nx, .pointer (some ⟨px, 0, none⟩), x8, x9, undef, undef, undef, undef, .int .i64 n, .int .i64 i, out, .int .i64 es.length, .int .i64 m, .int .i64 (2 ^ t : Nat), .int .i64 p, undef, undef, undef]) (2 ^ t) ⟨0, [], bn', nx, _, _, by omega, by rw [List.append_nil]; exact hG7, rfl, hx67, hb7, hne7, hl7, rfl⟩ ?_
       clear hG7
       rintro j3 e' H8 ⟨p, es3, bn3, nx3, x8, x9, hpj, hG3, hD3, hx8, hb8, hne8, hl8, rfl⟩
       have hn8 := hx8.next
       refine s_test ?_
       simp only [o_pure, o_nil, POp.ev, Opd.ev, gv, setD, xsj, xel, binV, ne_eq, xnt, if_false]
       refine Test.split (fun hlt3 => ?_) (fun hlt3 => ?_)
       · have hp : p < 2 ^ t := by have := of_decide_eq_true hlt3; omega
         have hl3 : es3.length ≤ 4 := by
           have h1 := congrArg List.length hD3
           simp at h1
           omega
         obtain ⟨m1, m2, m3, m4⟩ := mix_step (t := t) (p := p) hL hU hi fv
         have hiL : i < L.length := by omega
         have hiU : i < U.length := by omega
         have bL := q6 _ (List.getElem_mem hiL)
         have bU := q7 _ (List.getElem_mem hiU)
         have eL : L.getD i 0 = L[i] := by simp [hiL]
         have eU : U.getD i 0 = U[i] := by simp [hiU]
         rw [← eL] at bL
         rw [← eU] at bU
         have hd1 := mul_small (p := p) (t := t) (d := U.getD i 0 - L.getD i 0) (by omega) (by omega)
         have hs1 : (L.getD i 0 * 2 ^ t).natAbs ≤ 8192 := by
           rw [Int.natAbs_mul, ← hpi, Int.natAbs_natCast]
           exact Nat.le_trans (Nat.mul_le_mul (show (L.getD i 0).natAbs ≤ 2048 by omega) (show 2 ^ t ≤ 4 by omega)) (by decide)
         have wm1 : IntKind.i64.wrap ((p : Int) * (U.getD i 0 - L.getD i 0)) = (p : Int) * (U.getD i 0 - L.getD i 0) := wr_id (by omega) (by omega)
         have wm2 : IntKind.i64.wrap (L.getD i 0 * 2 ^ t + (p : Int) * (U.getD i 0 - L.getD i 0)) = L.getD i 0 * 2 ^ t + (p : Int) * (U.getD i 0 - L.getD i 0) := wr_id (by omega) (by omega)
         have wm3 : IntKind.i64.wrap (L.getD i 0 * 2 ^ t + (p : Int) * (U.getD i 0 - L.getD i 0) + (U.getD i 0 - L.getD i 0)) = L.getD i 0 * 2 ^ t + (p : Int) * (U.getD i 0 - L.getD i 0) + (U.getD i 0 - L.getD i 0) := wr_id (by omega) (by omega)
         have g1' := Vec.ext g1 hx8
         have g2' := Vec.ext g2 hx8
         refine s_skip1 ?_
         simp +decide only [pqn]
         refine s_block1 ?_
         refine s_reg ?_
         simp only [o_pure, o_nil, POp.ev, Opd.ev, gv, setD, List.set, xsj, xel]
         refine s_regT_cut (fun e' H' => ∃ (ys yt : Value) (yc yd yp : Nat), VecI H' yc ys (mixL t i L U vv) ∧ VecI H' yd yt (mixH t i L U vv) ∧ H'.blk yp = some [.int .i64 0, ys, yt] ∧ H8.next ≤ yc ∧ yc < H'.next ∧ H8.next ≤ yd ∧ yd < H'.next ∧ H8.next ≤ yp ∧ yp < H'.next ∧ yc ≠ yd ∧ yc ≠ yp ∧ yd ≠ yp ∧ Ext H8 H' ∧ e' = [.pointer (some ⟨q, 0, none⟩), .int .i64 t, .slice none 0 0, .bool false, out, .int .i64 i, nx3, .pointer (some ⟨px, 0, none⟩), .int .i64 p, .pointer (some ⟨yp, 0, none⟩), undef, undef, undef, undef, .int .i64 n, .int .i64 i, out, .int .i64 es.length, .int .i64 m, .int .i64 (2 ^ t : Nat), .int .i64 p, undef, undef, undef]) ?_ ?_
         · have hfy : ∀ (ys yt : Value), cellsV ys = some [ys] → cellsV yt = some [yt] → fillV [.int .i64 0, .slice none 0 0, .slice none 0 0] [(1, 1, ys), (2, 1, yt)] = some [.int .i64 0, ys, yt] := fun ys yt a b => by simp [fillV, a, b]
           have lt1 : ∀ (G : AHeap) (yc : Nat) (ys : Value), VecI G yc ys (mixL t i L U vv) → yc < G.next := fun G yc ys h => (Vec.blk h (by omega)).elim fun _ h => h.2
           have lt2 : ∀ (G : AHeap) (yc : Nat) (ys : Value), VecI G yc ys (mixH t i L U vv) → yc < G.next := fun G yc ys h => (Vec.blk h (by omega)).elim fun _ h => h.2
           have hz := Ext.alloc H8 [.int .i64 0, .slice none 0 0, .slice none 0 0]
           have hzb : (H8.alloc [.int .i64 0, .slice none 0 0, .slice none 0 0]).blk H8.next = some [.int .i64 0, .slice none 0 0, .slice none 0 0] := alloc_new _ _
           have hzn : (H8.alloc [.int .i64 0, .slice none 0 0, .slice none 0 0]).next = H8.next + 1 := rfl
           simp only [o_pure, o_eff, o_callF, o_callN, t_op, t_alt, t_nil, o_nil, POp.ev, Opd.ev, EOp.ev, gv, setD, List.set, List.map, xsj, xel, load1V, fadV, ne_eq, xgz, xgs, Nat.zero_add, cell_blk hb8]
           refine ⟨?_, ?_⟩
           · refine (Ints.clone_ok _ xs _ H8 (Nat.le_refl _) (Vec.sl g1') (by omega)).use ?_
             rintro ys Ha ⟨yc, y1, _, y3, hxa⟩ _
             have hna := hxa.next
             have y4 := lt1 _ _ _ y3
             simp only [o_cont, o_nil, gv, setD, List.set]
             refine ⟨?_, ?_⟩
             · refine (Ints.clone_ok lim xt _ Ha (by omega) (Vec.sl (Vec.ext g2' hxa)) (by omega)).mono ?_
               rintro yt Hb ⟨yd, y5, _, y6, hxb⟩
               have hnb := hxb.next
               have y7 := lt2 _ _ _ y6
               have hst : storeH lim (Hb.alloc [.int .i64 0, .slice none 0 0, .slice none 0 0]) 3 (.pointer (some ⟨Hb.next, 0, none⟩)) (.agg #[.int .i64 0, ys, yt]) = some (undef, Hb.alloc [.int .i64 0, ys, yt]) := store3_new (by omega)
               simp only [o_cont, o_nil, gv, setD, List.set, xms, xsj, xel, hfy ys yt (Vec.cellsV y3) (Vec.cellsV y6), xms, hst]
               have hxc := Ext.alloc Hb [.int .i64 0, ys, yt]
               have hnc : (Hb.alloc [.int .i64 0, ys, yt]).next = Hb.next + 1 := rfl
               exact ⟨ys, yt, yc, yd, Hb.next, Vec.ext y3 (hxb.trans hxc), Vec.ext y6 hxc, alloc_new _ _, by omega, by omega, by omega, by omega, by omega, by omega, by omega, by omega, by omega, (hxa.trans hxb).trans hxc, rfl⟩
             · have hxz := Ext.alloc Ha [.int .i64 0, .slice none 0 0, .slice none 0 0]
               have hab : (Ha.alloc [.int .i64 0, .slice none 0 0, .slice none 0 0]).blk Ha.next = some [.int .i64 0, .slice none 0 0, .slice none 0 0] := alloc_new _ _
               have han : (Ha.alloc [.int .i64 0, .slice none 0 0, .slice none 0 0]).next = Ha.next + 1 := rfl
               generalize Ha.alloc [.int .i64 0, .slice none 0 0, .slice none 0 0] = Hz at hxz hab han ⊢
               refine (Ints.clone_ok lim xt _ Hz (by omega) (Vec.sl (Vec.ext g2' (hxa.trans hxz))) (by omega)).mono ?_
               rintro yt Hb ⟨yd, y5, _, y6, hxb⟩
               have hnb := hxb.next
               have y7 := lt2 _ _ _ y6
               have hst : storeH lim Hb 3 (.pointer (some ⟨Ha.next, 0, none⟩)) (.agg #[.int .i64 0, ys, yt]) = some (undef, Hb.put Ha.next [.int .i64 0, ys, yt]) := store3 (by omega) (by rw [hxb.blk _ (by omega)]; exact hab)
               simp only [o_cont, o_nil, gv, setD, xms, xsj, xel, hfy ys yt (Vec.cellsV y3) (Vec.cellsV y6), xms, hst]
               have hch : Chg Ha.next Hb (Hb.put Ha.next [.int .i64 0, ys, yt]) := Chg.put _ _ _
               have hnp : (Hb.put Ha.next [.int .i64 0, ys, yt]).next = Hb.next := rfl
               exact ⟨ys, yt, yc, yd, Ha.next, Vec.chg (Vec.ext y3 (hxz.trans hxb)) hch (by omega), Vec.chg y6 hch (by omega), put_same _ _ _, by omega, by omega, by omega, by omega, by omega, by omega, by omega, by omega, by omega, Chg.ext ((hxa.trans hxz).trans hxb) hch (by omega), rfl⟩
           · generalize H8.alloc [.int .i64 0, .slice none 0 0, .slice none 0 0] = Hz at hz hzb hzn ⊢
             refine (Ints.clone_ok _ xs _ Hz (Nat.le_refl _) (Vec.sl (Vec.ext g1' hz)) (by omega)).use ?_
             rintro ys Ha ⟨yc, y1, _, y3, hxa⟩ _
             have hna := hxa.next
             have y4 := lt1 _ _ _ y3
             simp only [o_cont, o_nil, gv, setD]
             refine (Ints.clone_ok lim xt _ Ha (by omega) (Vec.sl (Vec.ext g2' (hz.trans hxa))) (by omega)).mono ?_
             rintro yt Hb ⟨yd, y5, _, y6, hxb⟩
             have hnb := hxb.next
             have y7 := lt2 _ _ _ y6
             have hst : storeH lim Hb 3 (.pointer (some ⟨H8.next, 0, none⟩)) (.agg #[.int .i64 0, ys, yt]) = some (undef, Hb.put H8.next [.int .i64 0, ys, yt]) := store3 (by omega) (by rw [(hxa.trans hxb).blk _ (by omega)]; exact hzb)
             simp only [o_cont, o_nil, gv, setD, xms, xsj, xel, hfy ys yt (Vec.cellsV y3) (Vec.cellsV y6), xms, hst]
             have hch : Chg H8.next Hb (Hb.put H8.next [.int .i64 0, ys, yt]) := Chg.put _ _ _
             have hnp : (Hb.put H8.next [.int .i64 0, ys, yt]).next = Hb.next := rfl
             exact ⟨ys, yt, yc, yd, H8.next, Vec.chg (Vec.ext y3 hxb) hch (by omega), Vec.chg y6 hch (by omega), put_same _ _ _, by omega, by omega, by omega, by omega, by omega, by omega, by omega, by omega, by omega, Chg.ext ((hz.trans hxa).trans hxb) hch (Nat.le_refl _), rfl⟩
         · rintro e' H9 ⟨ys, yt, yc, yd, yp, v1, v2, v3, v4, v5, v6, v7, v8, v9, v10, v11, v12, hx9, rfl⟩
           have hn9 := hx9.next
           have hx09 : Ext H H9 := (hxr.trans hx8).trans hx9
           have hbq := hvq H9 hx09
           have hb9 : H9.blk px = some [.int .i64 0, xs, xt] := by rw [hx9.blk _ (by omega)]; exact hb8
           obtain ⟨r1, r2⟩ := VecI.at (Vec.ext g1' hx9) (i := i) (by omega)
           obtain ⟨r3, _⟩ := VecI.at v1 (i := i) (by omega)
           obtain ⟨cs, hst9, v1'⟩ := VecI.put (lim := lim) v1 (by omega) (i := i) (by omega) (L.getD i 0 * 2 ^ t + (p : Int) * (U.getD i 0 - L.getD i 0))
           rw [m1] at r2
           rw [m2] at v1'
           refine s_regT_cut (fun e' H' => H' = H9.put yc cs ∧ e' = [.pointer (some ⟨q, 0, none⟩), .int .i64 t, .slice none 0 0, .bool false, out, .int .i64 i, nx3, .pointer (some ⟨px, 0, none⟩), .int .i64 p, .pointer (some ⟨yp, 0, none⟩), undef, undef, undef, undef, .int .i64 n, .int .i64 i, out, .int .i64 es.length, .int .i64 m, .int .i64 (2 ^ t : Nat), .int .i64 p, undef, undef, undef]) ?_ ?_
           · simp only [o_pure, o_eff, o_callF, t_op, t_alt, t_nil, o_nil, POp.ev, Opd.ev, EOp.ev, gv, setD, List.map, xms, xsj, xel, binV, load1V, fadV, ne_eq, xgz, xgs, Nat.zero_add, cell_blk v3, cell_blk hb9, r1, r2]
             repeat' (with_reducible apply And.intro)
             all_goals refine (length_ok lim q i K bl bu L U H9 hbq hiL (by omega) sm1 sm2).eq ?_
             all_goals simp only [o_cont, o_nil, gv, setD, xms, xsj, xel, xnt, if_false, xgz, xgs, cell_blk v3, cell_blk hb9, r1, r2, r3, wm1, wm2, hst9]
             all_goals (repeat' (with_reducible apply And.intro))
             all_goals first | exact trivial | rfl
           · rintro e' H10 ⟨rfl, rfl⟩
             have hch9 : Chg yc H9 (H9.put yc cs) := Chg.put _ _ _
             have hx10 : Ext H8 (H9.put yc cs) := Chg.ext hx9 hch9 v4
             have v3' : (H9.put yc cs).blk yp = some [.int .i64 0, ys, yt] := by rw [put_ne _ _ (by omega)]; exact v3
             have v2' := Vec.chg v2 hch9 (by omega)
             have hnp9 : (H9.put yc cs).next = H9.next := rfl
             generalize H9.put yc cs = H10 at hx10 v1' v2' v3' hnp9 ⊢
             have hbq10 := hvq H10 (hxr.trans (hx8.trans hx10))
             obtain ⟨w1, w2⟩ := VecI.at v1' (i := i) (by rw [(mix_len (t := t) hL hU (show i + 1 ≤ n by omega) (show (vv ++ [p]).length = i + 1 by simp [fv])).1]; omega)
             rw [m3] at w2
             obtain ⟨w3, _⟩ := VecI.at v2' (i := i) (by omega)
             obtain ⟨cs2, hst10, v2''⟩ := VecI.put (lim := lim) v2' (by omega) (i := i) (by omega) (L.getD i 0 * 2 ^ t + (p : Int) * (U.getD i 0 - L.getD i 0) + (U.getD i 0 - L.getD i 0))
             rw [m4] at v2''
             refine s_regT_cut (fun e' H' => H' = H10.put yd cs2 ∧ e' = [.pointer (some ⟨q, 0, none⟩), .int .i64 t, .slice none 0 0, .bool false, out, .int .i64 i, nx3, .pointer (some ⟨px, 0, none⟩), .int .i64 p, .pointer (some ⟨yp, 0, none⟩), undef, undef, undef, undef, .int .i64 n, .int .i64 i, out, .int .i64 es.length, .int .i64 m, .int .i64 (2 ^ t : Nat), .int .i64 p, undef, undef, undef]) ?_ ?_
             · simp only [o_pure, o_eff, o_callF, t_op, t_alt, t_nil, o_nil, POp.ev, Opd.ev, EOp.ev, gv, setD, List.map, xms, xsj, xel, binV, load1V, fadV, ne_eq, xgz, xgs, Nat.zero_add, cell_blk v3', w1, w2]
               repeat' (with_reducible apply And.intro)
               all_goals refine (length_ok lim q i K bl bu L U H10 hbq10 hiL (by omega) sm1 sm2).eq ?_
               all_goals simp only [o_cont, o_nil, gv, setD, xms, xsj, xel, xnt, if_false, xgz, xgs, cell_blk v3', w1, w2, w3, wm3, hst10]
               all_goals (repeat' (with_reducible apply And.intro))
               all_goals first | exact trivial | rfl
             · rintro e' H11 ⟨rfl, rfl⟩
               have hch10 : Chg yd H10 (H10.put yd cs2) := Chg.put _ _ _
               have hx11 : Ext H8 (H10.put yd cs2) := Chg.ext hx10 hch10 v6
               have v3'' : (H10.put yd cs2).blk yp = some [.int .i64 0, ys, yt] := by rw [put_ne _ _ (by omega)]; exact v3'
               have v1'' := Vec.chg v1' hch10 (by omega)
               have hnp10 : (H10.put yd cs2).next = H10.next := rfl
               generalize H10.put yd cs2 = H11 at hx11 v1'' v2'' v3'' hnp10 ⊢
               have hlow := hG3.low
               obtain ⟨nx4, H12, b4, e12, hG12, hx12, hk12, hn12, hb12⟩ := hG3.pushX (lim := lim) (H0 := Hr) (x := ⟨0, ys, yt, mixL t (i + 1) L U (vv ++ [p]), mixH t (i + 1) L U (vv ++ [p])⟩) (by omega) hx8 (Nat.le_refl _) (by omega) hx11 v1'' v2'' (by omega) (by omega) (by omega) (by omega) (by
                 rcases hG3.st with hz | hz
                 · exact .inl hz
                 · right; omega) (by rw [List.length_append]; omega)
               have hbsl := bslice_box H11 ⟨0, ys, yt, mixL t (i + 1) L U (vv ++ [p]), mixH t (i + 1) L U (vv ++ [p])⟩ (Vec.cellsV v1'') (Vec.cellsV v2'')
               have hbsl' : bsliceH H11 1 [.int .i64 0, .slice none 0 0, .slice none 0 0] [(0, 3, .agg #[.int .i64 0, ys, yt])] = some (.slice (some ⟨H11.next, 0, some 0⟩) 1 1, H11.alloc (bxc ⟨0, ys, yt, mixL t (i + 1) L U (vv ++ [p]), mixH t (i + 1) L U (vv ++ [p])⟩)) := hbsl
               refine s_reg1 ?_
               simp only [o_pure, o_eff, o_nil, POp.ev, Opd.ev, EOp.ev, gv, setD, List.set, List.map, xsj, xel, load3 v3'', hbsl', e12]
               simp +decide only [pqn, pbn]
               refine s_reg1 ?_
               simp only [o_pure, o_nil, POp.ev, Opd.ev, gv, setD, List.set, xsj, xel, binV, ne_eq, xnt, if_false, add1 (i := p) (by omega)]
               simp +decide only [pqn]
               have hn11 := hx11.next
               refine Round.mk (j3 - 1) (by omega) ⟨p + 1, es3 ++ [⟨0, ys, yt, mixL t (i + 1) L U (vv ++ [p]), mixH t (i + 1) L U (vv ++ [p])⟩], b4, nx4, _, _, by omega, by rw [← List.append_assoc]; exact hG12, ?_, hx12, ?_, ?_, by omega, rfl⟩
               · rw [List.map_append, hD3, List.range_succ, List.map_append, List.map_append]
                 rfl
               · rw [hk12 _ (by omega) hne8, hx11.blk _ hl8]
                 exact hb8
               · rcases hb12 with rfl | h
                 · exact hne8
                 · omega
       · have hp : p = 2 ^ t := by have := of_decide_eq_false hlt3; omega
         subst hp
         refine s_exit1 ?_
         simp +decide only [pqn, pqe, pbn, pbe, reduceIte]
         refine s_reg1 ?_
         simp only [o_pure, o_nil, POp.ev, Opd.ev, gv, setD, List.set, xsj, xel, binV, ne_eq, xnt, if_false, add1 (i := m) (by omega)]
         simp +decide only [pqn]
         refine Round.mk (j2 - 1) (by omega) ⟨m + 1, es2 ++ es3, bn3, nx3, _, _, _, _, _, by omega, hG3, ?_, hx8, rfl⟩
         rw [List.map_append, hD2, hD3, hIt, List.flatMap_append, List.map_append]
         congr 1
         simp only [List.flatMap_cons, List.flatMap_nil, List.append_nil]
     · have hm : m = es.length := by have := of_decide_eq_false hlt2; omega
       subst hm
       refine s_exit1 ?_
       simp +decide only [pqn, pqe, pbe, reduceIte]
       refine s_reg1 ?_
       simp only [o_pure, o_nil, POp.ev, Opd.ev, gv, setD, List.set, xsj, xel]
       simp +decide only [pqn, pbn]
       refine s_reg1 ?_
       simp only [o_pure, o_nil, POp.ev, Opd.ev, gv, setD, List.set, xsj, xel, binV, ne_eq, xnt, if_false, add1 (i := i) (by omega)]
       simp +decide only [pqn]
       rw [List.take_of_length_le (by omega), ← hnext] at hD2
       exact Round.mk (j - 1) (by omega) ⟨i + 1, es2, bn, nx, _, _, _, _, _, _, _, _, _, _, by omega, hG2.lower (by have := hG2.low; omega) (fun _ _ h => h), hD2, hxr.trans hx6, rfl⟩
   · have hi : i = n := by have := of_decide_eq_false hlt; omega
     subst hi
     refine s_exit1 ?_
     simp +decide only [pqn, pqe, pbe, reduceIte]
     exact ⟨es, b, out, _, _, _, _, _, _, _, _, _, _, _, _, hG, hD, hxr, rfl⟩
 · rintro e' Hs ⟨es, b, out, x5, x6, x7, x8, x9, x14, x15, x16, x17, x18, x19, x20, hG, hD, hxs, rfl⟩
   obtain ⟨f1, f2⟩ := grid_facts ⟨n, by omega⟩ ⟨t, by omega⟩
   simp only at f1 f2
   have hlen : es.length = (gridI (2 ^ t) n).length := by have := congrArg List.length hD; simpa using this
   generalize gridI (2 ^ t) n = I at *
   have hwk : IntKind.i64.wrap ((K : Int) + t) = ((K + t : Nat) : Int) := by
     rw [show (K : Int) + (t : Int) = ((K + t : Nat) : Int) by omega]
     exact wr_nat (by omega)
   refine s_reg ?_
   simp only [o_pure, o_nil, POp.ev, Opd.ev, gv, setD, List.set, xsj, xel, hG.slb.lenV]
   refine s_block1 ?_
   refine s_loop1 (fun j e' H' => ∃ (i : Nat) (ed : List BX) (x10 x11 x12 x13 : Value), i + j = es.length ∧ ed.length = es.length ∧ GrowB H' H.next (H.next ≤ ·) b out ed ∧ ed.map dat = (I.take i).map (boxI K t L U) ++ (I.drop i).map (fun v => (0, mixL t n L U v, mixH t n L U v)) ∧ Ext H H' ∧ e' = [.pointer (some ⟨q, 0, none⟩), .int .i64 t, .slice none 0 0, .bool false, out, x5, x6, x7, x8, x9, x10, x11, x12, x13, x14, x15, x16, x17, x18, x19, x20, out, .int .i64 es.length, .int .i64 i]) es.length ⟨0, es, _, _, _, _, by omega, rfl, hG, by simpa using hD, hxs, rfl⟩ ?_
   clear hG hxs hD
   rintro j e' H1 ⟨i, ed, x10, x11, x12, x13, hij, hle, hG, hD, hx1, rfl⟩
   have hn1 := hx1.next
   refine s_test ?_
   simp only [o_pure, o_nil, POp.ev, Opd.ev, gv, setD, xsj, xel, binV, ne_eq, xnt, if_false]
   refine Test.split (fun hlt => ?_) (fun hlt => ?_)
   · have hi : i < es.length := by have := of_decide_eq_true hlt; omega
     have hid : i < ed.length := by omega
     have hiI : i < I.length := by omega
     obtain ⟨o1, o2, u1, u2⟩ := hG.slb.at hid
     have hdx : dat ed[i] = (0, mixL t n L U I[i], mixH t n L U I[i]) := by
       have h1 := map_get hD hid (by simp; omega)
       rw [h1, List.getElem_append_right (by simp; omega)]
       simp [Nat.min_eq_left (Nat.le_of_lt hiI)]
     obtain ⟨fv, fi⟩ := f2 _ (List.getElem_mem hiI)
     obtain ⟨c, d, g1, g2, g3, g4, g5, g6, g7, g8⟩ := hG.el _ (List.getElem_mem hid)
     have hDn : ∀ y : BX, dat y = boxI K t L U I[i] → (ed.set i y).map dat = (I.take (i + 1)).map (boxI K t L U) ++ (I.drop (i + 1)).map (fun v => (0, mixL t n L U v, mixH t n L U v)) := by
       intro y hy
       rw [List.map_set, hD, hy, List.take_succ_eq_append_getElem hiI, List.drop_eq_getElem_cons hiI, List.map_append, List.map_cons]
       simp only [List.map_cons, List.map_nil]
       rw [List.append_assoc]
       have hl1 : ((I.take i).map (boxI K t L U)).length = i := by simp; omega
       rw [List.set_append_right _ _ (by omega), hl1, Nat.sub_self]
       rfl
     generalize I[i] = vv at *
     have hbx := box_good (K := K) (t := t) (v := vv) hL hU (by omega) (by omega) (by omega) (by rw [← hr]) fv fi
     have eml : mixL t n L U vv = lowR t L U vv := by
       unfold mixL
       rw [List.take_of_length_le (by omega), List.take_of_length_le (by omega), List.drop_of_length_le (by omega)]
       simp [sclI]
     have emh : mixH t n L U vv = highR t L U vv := by
       unfold mixH
       rw [List.take_of_length_le (by omega), List.take_of_length_le (by omega), List.drop_of_length_le (by omega)]
       simp [sclI]
     have l1 := lowR_length t L U vv (by omega) (by omega)
     have l2 := highR_length t L U vv (by omega) (by omega)
     obtain ⟨ir1, ir2⟩ := inR_rng (lev_rng hr fi) (by omega) (by
       have := pow_pos2 K
       exact Int.mul_nonneg (by omega) (by omega)) (by
       have h1 : K ≤ 4 := by omega
       rw [← m_pow]
       have h2 := pow_le2 (show K + t ≤ 6 by omega)
       omega)
     have hG0 := hG
     generalize ed[i] = x at *
     obtain ⟨xk, xs, xt, xlo, xhi⟩ := x
     simp only [dat, Prod.mk.injEq] at hdx
     obtain ⟨rfl, rfl, rfl⟩ := hdx
     simp only at g1 g2
     rw [eml] at g1
     rw [emh] at g2
     refine s_skip1 ?_
     simp +decide only [pqn]
     refine s_block1 ?_
     refine s_reg ?_
     have hst : storeH lim (H1.alloc [.int .i64 0, .slice none 0 0, .slice none 0 0]) 3 (.pointer (some ⟨H1.next, 0, none⟩)) (bxv ⟨0, xs, xt, mixL t n L U vv, mixH t n L U vv⟩) = some (undef, H1.alloc [.int .i64 0, xs, xt]) := store3_new (by omega)
     simp only [o_pure, o_eff, o_nil, POp.ev, Opd.ev, EOp.ev, gv, setD, List.set, xsj, xel, u1, u2 H1 (Ext.refl _), hst]
     have hx2 := Ext.alloc H1 [.int .i64 0, xs, xt]
     have hb2 : (H1.alloc [.int .i64 0, xs, xt]).blk H1.next = some [.int .i64 0, xs, xt] := alloc_new _ _
     have hl2 : (H1.alloc [.int .i64 0, xs, xt]).next = H1.next + 1 := rfl
     generalize H1.alloc [.int .i64 0, xs, xt] = H2 at hx2 hb2 hl2 ⊢
     have hbq := hvq H2 (hx1.trans hx2)
     have hb2q := hbq.blk
     have hmk : makeB (K + t) (lowR t L U vv) (highR t L U vv) = (true, boxI K t L U vv) := by
       unfold makeB
       exact Prod.ext hbx.1 rfl
     refine s_regT_cut (fun e' H' => ∃ (ys yt : Value) (yc yd yp : Nat), VecI H' yc ys (boxI K t L U vv).2.1 ∧ VecI H' yd yt (boxI K t L U vv).2.2 ∧ H'.blk yp = some [.int .i64 ((boxI K t L U vv).1 : Nat), ys, yt] ∧ H1.next ≤ yc ∧ yc < H'.next ∧ H1.next ≤ yd ∧ yd < H'.next ∧ Ext H1 H' ∧ e' = [.pointer (some ⟨q, 0, none⟩), .int .i64 t, .slice none 0 0, .bool false, out, x5, x6, x7, x8, x9, .int .i64 i, .pointer (some ⟨H1.next, 0, none⟩), .pointer (some ⟨yp, 0, none⟩), .bool true, x14, x15, x16, x17, x18, x19, x20, out, .int .i64 es.length, .int .i64 i]) ?_ ?_
     · simp only [o_pure, o_eff, o_callF, t_op, t_alt, t_nil, o_nil, POp.ev, Opd.ev, EOp.ev, gv, setD, List.set, List.map, xsj, xel, binV, load1V, nilchkV, fadV, extV, ne_eq, xnt, if_false, xgz, xgs, Nat.zero_add, cell_blk hb2q, cell_blk hb2, hwk]
       have hn2 := hx2.next
       have hcall : ∀ G : AHeap, Ext H2 G → ACalls Tryz.prog lim n_impl_boxOf [.int .i64 (K + t : Nat), xs, xt] G fun v H' => (∃ ys yt yc yd, v = .tuple #[.agg #[.int .i64 ((boxI K t L U vv).1 : Nat), ys, yt], .bool true] ∧ VecI H' yc ys (boxI K t L U vv).2.1 ∧ VecI H' yd yt (boxI K t L U vv).2.2 ∧ G.next ≤ yc ∧ yc < H'.next ∧ G.next ≤ yd ∧ yd < H'.next) ∧ Ext G H' := by
         intro G hG
         have hnG := hG.next
         refine (boxOf_ok lim (K + t) xs xt (lowR t L U vv) (highR t L U vv) G (by omega) (Vec.sl (Vec.ext g1 (hx2.trans hG))) (Vec.sl (Vec.ext g2 (hx2.trans hG))) (by omega) (by omega) (by omega) (by omega) ir1 ir2).mono ?_
         rw [hmk]
         rintro v H' ⟨h, hxg⟩
         refine ⟨?_, hxg⟩
         rcases h with ⟨h, _⟩ | ⟨_, ys, yt, yc, yd, rfl, e1, e2, e3, e4, e5⟩
         · cases h
         · have lb1 : (boxI K t L U vv).2.1.length = n := hbx.2
           have lb2 : (boxI K t L U vv).2.2.length = n := by rw [show (boxI K t L U vv).2.2.length = (highR t L U vv).length from ((normB_len (K + t) (lowR t L U vv) (highR t L U vv) (by omega)).2).trans (by omega)]; omega
           have e4 : VecI H' yc ys (boxI K t L U vv).2.1 := e4
           have e5 : VecI H' yd yt (boxI K t L U vv).2.2 := e5
           exact ⟨ys, yt, yc, yd, rfl, e4, e5, by omega, (Vec.blk e4 (by omega)).elim fun _ h => h.2, by omega, (Vec.blk e5 (by omega)).elim fun _ h => h.2⟩
       refine ⟨?_, ?_⟩
       · refine (hcall H2 (Ext.refl _)).mono ?_
         rintro _ H3 ⟨⟨ys, yt, yc, yd, rfl, e1, e2, e3, e4, e5, e6⟩, hx3⟩
         have hn3 := hx3.next
         have hst : storeH lim (H3.alloc [.int .i64 0, .slice none 0 0, .slice none 0 0]) 3 (.pointer (some ⟨H3.next, 0, none⟩)) (.agg #[.int .i64 ((boxI K t L U vv).1 : Nat), ys, yt]) = some (undef, H3.alloc [.int .i64 ((boxI K t L U vv).1 : Nat), ys, yt]) := store3_new (by omega)
         simp only [o_cont, o_nil, gv, setD, List.set, xsj, xel, List.getElem?_toArray, xgz, xgs, hst]
         have hx4 := Ext.alloc H3 [.int .i64 ((boxI K t L U vv).1 : Nat), ys, yt]
         have hn4 : (H3.alloc [.int .i64 ((boxI K t L U vv).1 : Nat), ys, yt]).next = H3.next + 1 := rfl
         exact ⟨ys, yt, yc, yd, H3.next, Vec.ext e1 hx4, Vec.ext e2 hx4, alloc_new _ _, by omega, by omega, by omega, by omega, (hx2.trans hx3).trans hx4, rfl⟩
       · have hxz := Ext.alloc H2 [.int .i64 0, .slice none 0 0, .slice none 0 0]
         have hzb : (H2.alloc [.int .i64 0, .slice none 0 0, .slice none 0 0]).blk H2.next = some [.int .i64 0, .slice none 0 0, .slice none 0 0] := alloc_new _ _
         have hzn : (H2.alloc [.int .i64 0, .slice none 0 0, .slice none 0 0]).next = H2.next + 1 := rfl
         generalize H2.alloc [.int .i64 0, .slice none 0 0, .slice none 0 0] = Hz at hxz hzb hzn ⊢
         refine (hcall Hz hxz).mono ?_
         rintro _ H3 ⟨⟨ys, yt, yc, yd, rfl, e1, e2, e3, e4, e5, e6⟩, hx3⟩
         have hn3 := hx3.next
         have hst : storeH lim H3 3 (.pointer (some ⟨H2.next, 0, none⟩)) (.agg #[.int .i64 ((boxI K t L U vv).1 : Nat), ys, yt]) = some (undef, H3.put H2.next [.int .i64 ((boxI K t L U vv).1 : Nat), ys, yt]) := store3 (by omega) (by rw [hx3.blk _ (by omega)]; exact hzb)
         simp only [o_cont, o_nil, gv, setD, List.set, xsj, xel, List.getElem?_toArray, xgz, xgs, hst]
         have hch : Chg H2.next H3 (H3.put H2.next [.int .i64 ((boxI K t L U vv).1 : Nat), ys, yt]) := Chg.put _ _ _
         have hnp : (H3.put H2.next [.int .i64 ((boxI K t L U vv).1 : Nat), ys, yt]).next = H3.next := rfl
         exact ⟨ys, yt, yc, yd, H2.next, Vec.chg e1 hch (by omega), Vec.chg e2 hch (by omega), put_same _ _ _, by omega, by omega, by omega, by omega, Chg.ext ((hx2.trans hxz).trans hx3) hch (by omega), rfl⟩
     · rintro e' H3 ⟨ys, yt, yc, yd, yp, v1, v2, v3, v4, v5, v6, v7, hx3, rfl⟩
       have hn3 := hx3.next
       have hG3 := hG.ext hx3
       have hbn : b < H1.next := by
         rcases hG.st with ⟨_, h⟩ | h
         · subst h; simp at hid
         · exact h
       obtain ⟨s1, cs, s2, s3⟩ := hG3.set (lim := lim) hl hid (y := ⟨(boxI K t L U vv).1, ys, yt, (boxI K t L U vv).2.1, (boxI K t L U vv).2.2⟩) v1 v2 (by omega) v5 (by omega) v7 (by omega) (by omega)
       have hlow := hG.low
       simp only [bxv] at s2
       refine s_test ?_
       simp only [o_pure, o_nil, POp.ev, Opd.ev, gv, setD, xsj, xel, unV, Bool.not_true]
       refine Test.false_ (s_skip1 ?_)
       simp +decide only [pqn]
       refine s_reg1 ?_
       simp only [o_pure, o_eff, o_nil, POp.ev, Opd.ev, EOp.ev, gv, setD, xsj, xel, load3 v3, s1, s2]
       simp +decide only [pqn, pbn]
       refine s_reg1 ?_
       simp only [o_pure, o_nil, POp.ev, Opd.ev, gv, setD, List.set, xsj, xel, binV, ne_eq, xnt, if_false, add1 (i := i) (by omega)]
       simp +decide only [pqn]
       exact Round.mk (j - 1) (by omega) ⟨i + 1, _, _, _, _, _, by omega, by rw [List.length_set]; exact hle, s3, hDn _ rfl, Chg.ext (hx1.trans hx3) (Chg.put _ _ _) hlow, rfl⟩
   · have hi : i = es.length := by have := of_decide_eq_false hlt; omega
     subst hi
     refine s_exit1 ?_
     simp +decide only [pqn, pqe, pbe, reduceIte]
     refine s_reg ?_
     simp only [o_pure, o_nil, POp.ev, Opd.ev, gv, setD, List.set, xsj, xel]
     refine s_ret1 ?_
     simp +decide only [pfr, resV, resOne, resL, gv, xsj, xel, Option.bind_some, xms]
     rw [List.take_of_length_le (by omega), List.drop_of_length_le (by omega), List.map_nil, List.append_nil] at hD
     exact ⟨⟨out, ed, b, rfl, hD, hG⟩, hx1⟩
structure BoxQ (H : AHeap) (q qo : Nat) (k : Int) (s t : Value) (low high : List Int) : Prop where
 c0 : H.cell q qo = some (.int .i64 k)
 c1 : H.cell q (qo + 1) = some s
 c2 : H.cell q (qo + 2) = some t
 low : SlI H s low
 high : SlI H t high
theorem BoxQ.ext {H H' : AHeap} {q qo : Nat} {k : Int} {s t : Value} {low high : List Int} (h : BoxQ H q qo k s t low high) (hq : q < H.next) (hx : Ext H H') : BoxQ H' q qo k s t low high := by
 have e := hx.blk _ hq
 obtain ⟨h1, h2, h3, h4, h5⟩ := h
 simp only [AHeap.cell] at h1 h2 h3
 exact ⟨by simp only [AHeap.cell, e]; exact h1, by simp only [AHeap.cell, e]; exact h2, by simp only [AHeap.cell, e]; exact h3, SlI.ext h4 hx, SlI.ext h5 hx⟩
theorem faceSignQ_ok (lim : Nat) (s bl bu : Value) (p : List Tm) (L U : List Int) (k n side q : Nat) {qo : Nat} (up : Bool) (H : AHeap) (hl : lim ≤ H.next) (hs : SlT H s p) (hv : BoxQ H q qo k bl bu L U) (hq : q < H.next) (hc : Crs k n L U) (hp : goodP p = true) (hf : fromB n p = true) (hside : side < n) :
   ACalls Tryz.prog lim n_impl_faceSign [s, .pointer (some ⟨q, qo, none⟩), .int .i64 side, .bool up] H fun v H' => v = .int .i64 (fcS k p L U side up) ∧ Ext H H' := by
 have hLn := hc.hL
 have hUn := hc.hU
 have hn3 := hc.n3
 have hn1 := hc.n1
 refine is_impl_faceSign.go rfl ?_
 unfold c_impl_faceSign
 refine s_reg ?_
 simp only [o_pure, o_nil, POp.ev, Opd.ev, env0, gu, setD, List.set, xsj, xel]
 refine s_reg ?_
 simp only [o_pure, o_callN, POp.ev, Opd.ev, gv, setD, List.map, xsj, xel, load1V, nilchkV, fadV, hv.c1, hv.c2]
 refine (Ints.clone_ok _ bl L H (Nat.le_refl _) hv.low (by omega)).use ?_
 rintro lo H2 ⟨b, hb1, hb2, hlo, hx2⟩ _
 simp only [o_cont, o_callF, Opd.ev, gv, setD, List.map]
 refine (Ints.clone_ok lim bu U H2 (by have := hx2.next; omega) (SlI.ext hv.high hx2) (by omega)).mono ?_
 rintro hi H3 ⟨c, hc1, hc2, hhi, hx3⟩
 have hnx2 := hx2.next
 have hnx3 := hx3.next
 have hbl : b < H2.next := (Vec.blk hlo (by omega)).elim fun _ h => h.2
 have hcl : c < H3.next := (Vec.blk hhi (by omega)).elim fun _ h => h.2
 have hlo3 := Vec.ext hlo hx3
 have hx03 := hx2.trans hx3
 have hq3 := hv.ext hq hx03
 simp only [o_cont, o_pure, o_nil, POp.ev, Opd.ev, gv, setD, List.set, xsj, xel]
 refine s_cut (fun e' H' => VecI H' b lo (faceL L U side up) ∧ VecI H' c hi (faceU L U side up) ∧ Ext H H' ∧ e' = [s, .pointer (some ⟨q, qo, none⟩), .int .i64 side, .bool up, .int .i64 0, lo, hi]) ?_ ?_
 · refine s_test1 ?_
   simp only [o_pure, o_nil, POp.ev, Opd.ev, gv, setD, xsj, xel]
   cases up
   · refine Test.false_ ?_
     obtain ⟨q1, q2⟩ := VecI.at hlo3 (i := side) (by omega)
     obtain ⟨w1, _⟩ := VecI.at hhi (i := side) (by omega)
     obtain ⟨cs, hst, hhi4⟩ := VecI.put (lim := lim) hhi (by omega) (i := side) (by omega) (L.getD side 0)
     have hch : Chg c H3 (H3.put c cs) := Chg.put _ _ _
     refine s_reg1 ?_
     simp only [o_pure, o_eff, o_nil, POp.ev, Opd.ev, EOp.ev, gv, setD, xsj, xel, load1V, q1, q2, w1, hst]
     simp +decide only [pqn]
     exact ⟨Vec.chg hlo3 hch (by omega), hhi4, Chg.ext hx03 hch (by omega), trivial⟩
   · refine Test.true_ ?_
     obtain ⟨q1, q2⟩ := VecI.at hhi (i := side) (by omega)
     obtain ⟨w1, _⟩ := VecI.at hlo3 (i := side) (by omega)
     obtain ⟨cs, hst, hlo4⟩ := VecI.put (lim := lim) hlo3 (by omega) (i := side) (by omega) (U.getD side 0)
     have hch : Chg b H3 (H3.put b cs) := Chg.put _ _ _
     refine s_reg1 ?_
     simp only [o_pure, o_eff, o_nil, POp.ev, Opd.ev, EOp.ev, gv, setD, xsj, xel, load1V, q1, q2, w1, hst]
     simp +decide only [pqn]
     exact ⟨hlo4, Vec.chg hhi hch (by omega), Chg.ext hx03 hch (by omega), trivial⟩
 · rintro e' H4 ⟨g1, g2, g3, rfl⟩
   have hfc := hc.face hside up
   have hn4 := g3.next
   refine s_reg ?_
   simp only [o_pure, o_callF, POp.ev, Opd.ev, gv, setD, List.map, xsj, xel, load1V, nilchkV, fadV, Nat.add_zero, (hv.ext hq g3).c0]
   refine (bernstein_ok lim s lo hi p _ _ k n H4 (by omega) (hs.ext g3) (Vec.sl g1) (Vec.sl g2) hp hc.hk hn3 hfc.hL hfc.hU).mono ?_
   rintro a H5 ⟨b5, ha, hx5⟩
   have hne : ((placesL ((axN p (faceL L U side up) (faceU L U side up) n).map (·.d))).map fun is => wr (coef (termsN n k p) (axN p (faceL L U side up) (faceU L U side up) n) is)) ≠ [] := by
     intro h
     exact placesL_ne _ (List.map_eq_nil_iff.1 h)
   have hlen : ((placesL ((axN p (faceL L U side up) (faceU L U side up) n).map (·.d))).map fun is => wr (coef (termsN n k p) (axN p (faceL L U side up) (faceU L U side up) n) is)).length ≤ 1000000 := by
     obtain ⟨gg1, _, _⟩ := goodP_ok hp
     have hd := dgI_le (p := p) fun t ht => (gg1 t ht).2
     rw [List.length_map, axN_d]
     have h1 := placesL_length (ms := (List.range n).map (dgI p)) fun m hm => by
       obtain ⟨j, _, rfl⟩ := List.mem_map.1 hm
       exact hd j
     have h2 : (5 : Nat) ^ ((List.range n).map (dgI p)).length ≤ 5 ^ 3 := Nat.pow_le_pow_right (by decide) (by simp; omega)
     omega
   simp only [o_cont, o_callF, Opd.ev, gv, setD, List.map]
   refine (commonSign_ok lim a _ H5 (Vec.sl ha) hne hlen).eq ?_
   rw [bernList_sign hfc hp hf]
   simp only [o_cont, o_pure, o_nil, POp.ev, Opd.ev, gv, setD, List.set, xsj, xel]
   refine s_ret1 ?_
   simp +decide only [pfr, resV, resOne, gv, xsj, xel]
   exact ⟨rfl, g3.trans hx5⟩
theorem isOppositeQ_ok (lim : Nat) (s bl bu : Value) (p : List Tm) (L U : List Int) (k n side q : Nat) {qo : Nat} (H : AHeap) (hl : lim ≤ H.next) (hs : SlT H s p) (hv : BoxQ H q qo k bl bu L U) (hq : q < H.next) (hc : Crs k n L U) (hp : goodP p = true) (hf : fromB n p = true) (hside : side < n) :
   ACalls Tryz.prog lim n_impl_isOpposite [s, .pointer (some ⟨q, qo, none⟩), .int .i64 side] H fun v H' => v = .bool (oppB k p L U side) ∧ Ext H H' := by
 refine is_impl_isOpposite.go rfl ?_
 unfold c_impl_isOpposite
 refine s_reg ?_
 simp only [o_pure, o_nil, POp.ev, Opd.ev, env0, gu, setD, List.set, xsj, xel]
 refine s_reg ?_
 simp only [o_pure, o_callF, POp.ev, Opd.ev, gv, setD, List.map, xsj, xel]
 refine (faceSignQ_ok lim s bl bu p L U k n side q false H hl hs hv hq hc hp hf hside).mono ?_
 rintro _ H2 ⟨rfl, hx2⟩
 have hn2 := hx2.next
 simp only [o_cont, o_pure, o_callF, POp.ev, Opd.ev, gv, setD, List.map, xsj, xel]
 refine (faceSignQ_ok lim s bl bu p L U k n side q true H2 (by omega) (hs.ext hx2) (hv.ext hq hx2) (by omega) hc hp hf hside).mono ?_
 rintro _ H3 ⟨rfl, hx3⟩
 simp only [o_cont, o_pure, o_nil, POp.ev, Opd.ev, gv, setD, List.set, xsj, xel, binV, ne_eq, xnt, if_false, fcS_wrap]
 refine s_ret1 ?_
 simp +decide only [pfr, resV, resOne, gv, xsj, xel]
 exact ⟨rfl, hx2.trans hx3⟩
theorem passesMirandaQ_ok (lim : Nat) (s bl bu o : Value) (ss : List (List Tm)) (L U order : List Int) (k n q : Nat) {qo : Nat} (H : AHeap) (hl : lim ≤ H.next) (hs : SlSS H s ss) (hv : BoxQ H q qo k bl bu L U) (hq : q < H.next) (ho : SlI H o order) (hc : Crs k n L U) (hp : ∀ p ∈ ss, goodP p = true ∧ fromB n p = true) (hn : ss.length = n) (hon : order.length = n) (hin : ∀ x ∈ order, 0 ≤ x ∧ x ≤ (n : Int) - 1) :
   ACalls Tryz.prog lim n_impl_passesMiranda [s, .pointer (some ⟨q, qo, none⟩), o] H fun v H' => v = .bool (passB k ss L U order) ∧ Ext H H' := by
 have hn3 := hc.n3
 refine is_impl_passesMiranda.go rfl ?_
 unfold c_impl_passesMiranda
 refine s_reg ?_
 simp only [o_pure, o_nil, POp.ev, Opd.ev, env0, gu, setD, List.set, xsj, xel]
 refine s_assoc (s_reg ?_)
 simp only [o_pure, o_nil, POp.ev, Opd.ev, gv, setD, List.set, xsj, xel, ho.lenV]
 refine s_block ?_
 refine s_loop1 (fun j e' H' => ∃ (i : Nat) (x5 x6 : Value), i + j = order.length ∧ passB k ss L U order = ((List.range order.length).drop i).all (fun side => oppB k (ss.getD (order.getD side 0).toNat []) L U side) ∧ Ext H H' ∧ e' = [s, .pointer (some ⟨q, qo, none⟩), o, .bool false, x5, x6, o, .int .i64 order.length, .int .i64 i]) order.length ⟨0, _, _, by omega, rfl, Ext.refl _, rfl⟩ ?_
 rintro j e' H2 ⟨i, x5, x6, hij, hall, hx2, rfl⟩
 have hn2 := hx2.next
 refine s_test ?_
 simp only [o_pure, o_nil, POp.ev, Opd.ev, gv, setD, xsj, xel, binV, ne_eq, xnt, if_false]
 refine Test.split (fun hlt => ?_) (fun hlt => ?_)
 · have hlt' : i < order.length := by simpa using hlt
   obtain ⟨b1, o1, u1, _, u2⟩ := SlI.get (SlI.ext ho hx2) hlt'
   have hg : order.getD i 0 = order[i] := by simp [hlt']
   obtain ⟨r1, r2⟩ := hin _ (List.getElem_mem hlt')
   obtain ⟨m, hm⟩ : ∃ m : Nat, order[i] = m := ⟨order[i].toNat, by omega⟩
   have hml : m < ss.length := by omega
   obtain ⟨b2, o2, s1, w1, w2, w3⟩ := (hs.ext hx2).at hml
   rw [List.drop_eq_getElem_cons (by simpa using hlt'), List.all_cons, List.getElem_range, hg, hm, Int.toNat_natCast, show ss.getD m [] = ss[m] from by simp [hml]] at hall
   rw [hm] at u2
   obtain ⟨pp1, pp2⟩ := hp _ (List.getElem_mem hml)
   refine s_skip1 ?_
   simp +decide only [pqn]
   refine s_block1 ?_
   refine s_reg ?_
   simp only [o_pure, o_nil, POp.ev, Opd.ev, gv, setD, List.set, xsj, xel, load1V, u1, u2]
   refine s_test1 ?_
   simp only [o_pure, o_callF, POp.ev, Opd.ev, gv, setD, List.map, xsj, xel, load1V, w1, w2]
   refine (isOppositeQ_ok lim s1 bl bu ss[m] L U k n i q H2 (by omega) w3 (hv.ext hq hx2) (by omega) hc pp1 pp2 (by omega)).mono ?_
   rintro _ H3 ⟨rfl, hx3⟩
   simp only [o_cont, o_pure, o_nil, POp.ev, Opd.ev, gv, setD, xsj, xel, unV]
   refine Test.split (fun hb => ?_) (fun hb => ?_)
   · refine s_reg ?_
     simp only [o_pure, o_nil, POp.ev, Opd.ev, setD, List.set, xsj, xel]
     refine s_ret1 ?_
     simp +decide only [pqr, pbr, pfr, resV, resOne, gv, xsj, xel]
     simp only [Bool.not_eq_true'] at hb
     rw [hb, Bool.false_and] at hall
     rw [hall]
     exact ⟨rfl, hx2.trans hx3⟩
   · refine s_skip1 ?_
     simp +decide only [pqn, pbn]
     refine s_reg1 ?_
     simp only [o_pure, o_nil, POp.ev, Opd.ev, gv, setD, List.set, xsj, xel, binV, ne_eq, xnt, if_false, add1 (i := i) (by omega)]
     simp +decide only [pqn]
     simp only [Bool.not_eq_false'] at hb
     rw [hb, Bool.true_and] at hall
     exact Round.mk (j - 1) (by omega) ⟨i + 1, _, _, by omega, hall, hx2.trans hx3, rfl⟩
 · have hge : i = order.length := by simp at hlt; omega
   subst hge
   refine s_exit1 ?_
   simp +decide only [pqn, pqe, pbe, reduceIte]
   refine s_reg ?_
   simp only [o_pure, o_nil, POp.ev, Opd.ev, setD, List.set, xsj, xel]
   refine s_ret1 ?_
   simp +decide only [pfr, resV, resOne, gv, xsj, xel]
   rw [List.drop_of_length_le (by simp)] at hall
   rw [hall]
   exact ⟨rfl, hx2⟩
theorem closureQ_ok (lim : Nat) (s bl bu o : Value) (ss : List (List Tm)) (L U order : List Int) (k n q p2 p3 : Nat) {qo : Nat} (H : AHeap) (hl : lim ≤ H.next) (hs : SlSS H s ss) (hv : BoxQ H q qo k bl bu L U) (hq : q < H.next) (ho : SlI H o order) (hc : Crs k n L U) (hp : ∀ p ∈ ss, goodP p = true ∧ fromB n p = true) (hn : ss.length = n) (hon : order.length = n) (hin : ∀ x ∈ order, 0 ≤ x ∧ x ≤ (n : Int) - 1)
   (h2 : H.blk p2 = some [s]) (h3 : H.blk p3 = some [.pointer (some ⟨q, qo, none⟩)]) :
   ACalls Tryz.prog lim n_impl_mirandaOrders_1 [o, .pointer (some ⟨p2, 0, none⟩), .pointer (some ⟨p3, 0, none⟩)] H fun v H' => v = .bool (!passB k ss L U order) ∧ Ext H H' := by
 refine is_impl_mirandaOrders_1.go rfl ?_
 unfold c_impl_mirandaOrders_1
 refine s_reg ?_
 simp only [o_pure, o_nil, POp.ev, Opd.ev, env0, gu, setD, List.set, xsj, xel]
 refine s_reg ?_
 have c2 : H.cell p2 0 = some s := cell_blk h2 0
 have c3 : H.cell p3 0 = some (.pointer (some ⟨q, qo, none⟩)) := cell_blk h3 0
 simp only [o_pure, o_callF, POp.ev, Opd.ev, gv, setD, List.map, xsj, xel, load1V, c2, c3]
 refine (passesMirandaQ_ok lim s bl bu o ss L U order k n q H hl hs hv hq ho hc hp hn hon hin).mono ?_
 rintro _ H' ⟨rfl, hx⟩
 simp only [o_cont, o_pure, o_nil, POp.ev, Opd.ev, gv, setD, List.set, xsj, xel, unV]
 refine s_ret1 ?_
 simp +decide only [pfr, resV, resOne, gv, xsj, xel]
 exact ⟨trivial, hx⟩
theorem mirandaOrdersQ_ok (lim : Nat) (s bl bu : Value) (ss : List (List Tm)) (L U : List Int) (k n q : Nat) {qo : Nat} (H : AHeap) (hl : lim ≤ H.next) (hs : SlSS H s ss) (hv : BoxQ H q qo k bl bu L U) (hq : q < H.next) (hc : Crs k n L U) (hp : ∀ p ∈ ss, goodP p = true ∧ fromB n p = true) (hn : ss.length = n) :
   ACalls Tryz.prog lim n_impl_mirandaOrders [s, .pointer (some ⟨q, qo, none⟩)] H fun v H' => OwnKK H' H.next H'.next v ((passing k ss L U n).map zl) ∧ Ext H H' := by
 have hn3 := hc.n3
 have hn1 := hc.n1
 refine is_impl_mirandaOrders.go rfl ?_
 unfold c_impl_mirandaOrders
 have hcv : cellsV s = some [s] := by
   obtain ⟨vs, h1, _⟩ := hs
   exact h1.cellsV
 have hcp : cellsV (.pointer (some ⟨q, qo, none⟩)) = some [.pointer (some ⟨q, qo, none⟩)] := rfl
 refine s_reg ?_
 simp only [o_pure, o_eff, o_nil, POp.ev, Opd.ev, EOp.ev, env0, gu, gv, setD, List.set, xms, xsj, xel, boxH, hcv, hcp]
 have hx1 : Ext H ((H.alloc [s]).alloc [.pointer (some ⟨q, qo, none⟩)]) := (Ext.alloc _ _).trans (Ext.alloc _ _)
 have hp3 : ((H.alloc [s]).alloc [.pointer (some ⟨q, qo, none⟩)]).blk (H.next + 1) = some [.pointer (some ⟨q, qo, none⟩)] := alloc_new (H.alloc [s]) _
 have hp2 : ((H.alloc [s]).alloc [.pointer (some ⟨q, qo, none⟩)]).blk H.next = some [s] := by
   rw [alloc_old _ _ (Nat.lt_succ_self _)]
   exact alloc_new _ _
 have hnx : ((H.alloc [s]).alloc [.pointer (some ⟨q, qo, none⟩)]).next = H.next + 2 := rfl
 have hna : (H.alloc [s]).next = H.next + 1 := rfl
 rw [hna]
 generalize (H.alloc [s]).alloc [.pointer (some ⟨q, qo, none⟩)] = H1 at hx1 hp3 hp2 hnx ⊢
 have c2 : H1.cell H.next 0 = some s := cell_blk hp2 0
 refine s_reg ?_
 simp only [o_pure, o_callF, POp.ev, Opd.ev, gv, setD, List.map, xsj, xel, load1V, c2, hs.lenV]
 rw [hn]
 refine (ordersOf_ok lim n H1 (by omega) hn1 hn3).mono ?_
 rintro pv H2 ⟨hw, hx2⟩
 have hnx2 := hx2.next
 have hne : ords n ≠ [] := by
   have : ∀ m : Fin 4, ords m.val ≠ [] := by decide
   exact this ⟨n, by omega⟩
 rcases hw with ⟨_, h0⟩ | ⟨b, vs, bs, hP⟩
 · exact absurd (List.map_eq_nil_iff.1 h0) hne
 have hoi := ords_in ⟨n, by omega⟩
 have hol := ords_len ⟨n, by omega⟩
 simp only at hoi hol
 have hbr := hP.rng
 have hvl : vs.length = (ords n).length := by
   have := hP.vec.clen
   rw [List.length_map, Nat.mul_one] at this
   exact this
 simp only [o_cont, o_pure, o_callF, POp.ev, Opd.ev, gv, setD, List.map, xsj, xel]
 have hfl : ((List.range (ords n).length).map fun i => (vs.getD i undef, !passB k ss L U (zl ((ords n).getD i [])))).map (·.1) = vs := by
   rw [List.map_map]
   have := range_getD vs undef
   rw [hvl] at this
   exact this.symm
 generalize hFL : ((List.range (ords n).length).map fun i => (vs.getD i undef, !passB k ss L U (zl ((ords n).getD i [])))) = FL at hfl
 have hFLl : FL.length = (ords n).length := by rw [← hFL]; simp
 have hmem : ∀ x ∈ FL, ∃ i, i < (ords n).length ∧ x = (vs.getD i undef, !passB k ss L U (zl ((ords n).getD i []))) := by
   intro x hx
   rw [← hFL] at hx
   obtain ⟨i, hi, rfl⟩ := List.mem_map.1 hx
   exact ⟨i, List.mem_range.1 hi, rfl⟩
 have hel : ∀ i (hi : i < (ords n).length), ∃ sv c, vs.getD i undef = sv ∧ c ≠ b ∧ VecI H2 c sv (zl ((ords n).getD i [])) := by
   intro i hi
   obtain ⟨sv, c, g1, g2, g3⟩ := hP.el i (zl ((ords n).getD i [])) (by rw [List.getElem?_map, List.getElem?_eq_getElem hi]; simp [hi])
   refine ⟨sv, c, ?_, fun e => hP.nin (e ▸ List.mem_of_getElem? g2), g3⟩
   rw [List.getD_eq_getElem?_getD, g1]
   rfl
 have hT : Tells lim b H2 (.func (.func n_impl_mirandaOrders_1) #[] #[.pointer (some ⟨H.next, 0, none⟩), .pointer (some ⟨H.next + 1, 0, none⟩)]) FL := by
   intro x hx G R hg hr
   obtain ⟨i, hi, rfl⟩ := hmem x hx
   obtain ⟨sv, c, e1, e2, e3⟩ := hel i hi
   have hxG : Ext H1 G := Chg.ext hx2 hg (by omega)
   have hxG0 := hx1.trans hxG
   have hngG := hxG.next
   have hgd : (ords n).getD i [] = (ords n)[i] := by simp [hi]
   obtain ⟨q1, q2⟩ := hoi _ (List.getElem_mem hi)
   rw [callV_clo]
   refine (closureQ_ok lim s bl bu sv ss L U (zl ((ords n).getD i [])) k n q H.next (H.next + 1) G (by omega) (hs.ext hxG0) (hv.ext hq hxG0) (by omega) (Vec.sl (Vec.chg e3 hg e2)) hc hp hn (by rw [zl_length, hgd]; exact q1) (by
     intro x hxm
     rw [hgd] at hxm
     obtain ⟨y, hy, rfl⟩ := List.mem_map.1 hxm
     have := q2 y hy
     omega) (by rw [hxG.blk _ (by omega)]; exact hp2) (by rw [hxG.blk _ (by omega)]; exact hp3) |> fun h => ?_)
   simp only [e1]
   refine h.mono ?_
   rintro _ G' ⟨rfl, hx'⟩
   exact hr G' hx'
 refine (deleteD_ok lim b pv _ FL H2 (by rw [hFLl, hfl]; have := hP.vec; rw [List.length_map] at this; exact this) ?_ hT (by omega) (by omega)).mono ?_
 · intro x hx
   obtain ⟨i, hi, rfl⟩ := hmem x hx
   obtain ⟨sv, c, e1, e2, e3⟩ := hel i hi
   simp only [e1]
   exact Vec.cellsV e3
 rintro v H3 ⟨hv3, hc3⟩
 have hidx : kept FL = ((List.range (ords n).length).filter fun i => passB k ss L U (zl ((ords n).getD i []))).map fun i => (vs.getD i undef, !passB k ss L U (zl ((ords n).getD i []))) := by
   rw [← hFL]
   unfold kept
   rw [List.filter_map]
   congr 1
   refine List.filter_congr fun i _ => ?_
   simp
 have hpass : (passing k ss L U n).map zl = ((List.range (ords n).length).filter fun i => passB k ss L U (zl ((ords n).getD i []))).map fun i => ((ords n).map zl).getD i [] := by
   unfold passing
   have e := range_getD (ords n) []
   conv => lhs; rw [e]
   rw [List.filter_map, List.map_map]
   refine List.map_congr_left fun i hi => ?_
   have hi' := List.mem_range.1 (List.mem_filter.1 hi).1
   simp [Function.comp, hi']
 have hk := hP.sub (H' := H3) (v' := v) (idx := (List.range (ords n).length).filter fun i => passB k ss L U (zl ((ords n).getD i []))) (List.nodup_range.filter _) (fun i hi => by rw [List.length_map]; exact List.mem_range.1 (List.mem_filter.1 hi).1) (by
   rw [hidx, List.length_map, List.map_map] at hv3
   exact hv3) hc3
 rw [← hpass] at hk
 have hnx3 := hc3.next
 simp only [o_cont, o_pure, o_nil, POp.ev, Opd.ev, gv, setD, List.set, xsj, xel]
 refine s_ret1 ?_
 simp +decide only [pfr, resV, resOne, gv, xsj, xel]
 exact ⟨OwnKK.wide (.inr ⟨_, _, _, hk⟩) (by omega) hnx3, Chg.ext (hx1.trans hx2) hc3 (by omega)⟩
end Go.Proofs.YtagocdkcnajiiaaGreat
