/- Parts of the proof of a statement of this seat: contracts of functions that the law calls, or the law's own row; no condition. -/
import Derived.Test.YtagocdkcnajiiaaGreatM3
/- Parts of the proof of a statement of this seat: contracts of functions that the law calls, or the law's own row; no condition. -/
/- Bernstein coefficients, the reference's list: three turnings of the grid; no condition beyond stated ranges. -/
namespace Go.Proofs.YtagocdkcnajiiaaGreat
open Go.Ab Ints
set_option linter.unusedSimpArgs false
set_option linter.unusedVariables false
def fZ (d2 i j : Nat) (f : Nat → Nat → Nat → Int) (x y z : Nat) : Int := if x < i ∨ (x = i ∧ y < j) then oneF d2 (f x y) z else f x y z
def fY (d1 i l : Nat) (f : Nat → Nat → Nat → Int) (x y z : Nat) : Int := if x < i ∨ (x = i ∧ z < l) then oneF d1 (fun y => f x y z) y else f x y z
def fX (d0 j l : Nat) (f : Nat → Nat → Nat → Int) (x y z : Nat) : Int := if y < j ∨ (y = j ∧ z < l) then oneF d0 (fun x => f x y z) x else f x y z
theorem range_snoc (g : Nat → Nat) (n : Nat) : ((List.range (n + 1)).map g).map (fun (n : Nat) => (n : Int)) = ((List.range n).map g).map (fun (n : Nat) => (n : Int)) ++ [((g n : Nat) : Int)] := by
 rw [List.range_succ, List.map_append, List.map_append]
 rfl
def BeSt (lim : Nat) (H : AHeap) (b c : Nat) (a dd : Value) (d0 d1 d2 : Nat) (A : List Int) (f : Nat → Nat → Nat → Int) (H' : AHeap) : Prop :=
 IsG d0 d1 d2 A f ∧ VecI H' b a A ∧ VecI H' c dd [(d0 : Int), (d1 : Int), (d2 : Int)] ∧ Ext H H'
theorem list_ok (lim : Nat) (vp vl vh vk : Value) (d0 d1 d2 : Nat) (f : Nat → Nat → Nat → Int) (H : AHeap) (hl : lim ≤ H.next) (h0 : d0 ≤ 4) (h1 : d1 ≤ 4) (h2 : d2 ≤ 4)
   (hgrid : ACalls Tryz.prog lim n_spec_beGrid [vp, vl, vh, vk] H fun v H' => ∃ (a dd : Value) (b c : Nat) (A : List Int), v = .tuple #[a, dd] ∧ H.next ≤ b ∧ H.next ≤ c ∧ c ≠ b ∧ b < H'.next ∧ IsG d0 d1 d2 A f ∧ VecI H' b a A ∧ VecI H' c dd [(d0 : Int), (d1 : Int), (d2 : Int)] ∧ Ext H H') :
   ACalls Tryz.prog lim n_spec_beList [vp, vl, vh, vk] H fun v H' => ∃ (a dd : Value) (A : List Int), v = .tuple #[a, dd] ∧ IsG d0 d1 d2 A (turn3 d0 d1 d2 f) ∧ SlI H' a A ∧ Ext H H' := by
 refine is_spec_beList.go rfl ?_
 unfold c_spec_beList
 have hsz : (d0 + 1) * (d1 + 1) * (d2 + 1) ≤ 1000 := Nat.le_trans (Nat.mul_le_mul (Nat.mul_le_mul (show d0 + 1 ≤ 5 by omega) (show d1 + 1 ≤ 5 by omega)) (show d2 + 1 ≤ 5 by omega)) (by decide)
 refine s_reg ?_
 simp only [o_pure, o_nil, POp.ev, Opd.ev, env0, gu, setD, List.set, xsj, xel]
 refine s_reg ?_
 simp only [o_pure, o_callF, POp.ev, Opd.ev, gv, setD, List.map, xsj, xel]
 refine hgrid.mono ?_
 rintro _ H0 ⟨a, dd, b, c, A, rfl, hbH, hcH, hcb, hbl, hg, hva, hvd, hx0⟩
 simp only [o_cont, o_pure, o_nil, POp.ev, Opd.ev, gv, setD, List.set, xsj, xel, extV, List.getElem?_toArray, xgz, xgs]
 have hpos : (d0 + 1) * (d1 + 1) * (d2 + 1) ≠ 0 := Nat.mul_ne_zero (Nat.mul_ne_zero (by omega) (by omega)) (by omega)
 have hst : BeSt lim H b c a dd d0 d1 d2 A f H0 := ⟨hg, hva, hvd, hx0⟩
 clear hg hva hvd hx0
 generalize hfs : (f) = fs at hst
 refine s_cut (fun e' H' => ∃ (A : List Int) (y8 y9 y10 y11 y12 y13 y14 y15 y16 y17 y18 y19 : Value), BeSt lim H b c a dd d0 d1 d2 A (fun x y z => oneF d2 (fs x y) z) H' ∧ e' = [vp, vl, vh, vk, .slice none 0 0, .slice none 0 0, a, dd, y8, y9, y10, y11, y12, y13, y14, y15, y16, y17, y18, y19]) ?_ ?_
 · -- turning Z
   refine s_reg ?_
   simp only [o_pure, o_nil, POp.ev, Opd.ev, setD, List.set, xsj, xel]
   refine s_block1 ?_
   refine s_loop1 (fun k e' H' => ∃ (p : Nat) (A : List Int) (y9 y10 y11 y12 y13 y14 y15 y16 y17 y18 y19 : Value), p + k = d0 + 1 ∧ BeSt lim H b c a dd d0 d1 d2 A (fZ d2 p 0 fs) H' ∧ e' = [vp, vl, vh, vk, .slice none 0 0, .slice none 0 0, a, dd, .int .i64 p, y9, y10, y11, y12, y13, y14, y15, y16, y17, y18, y19]) (d0 + 1) ⟨0, A, _, _, _, _, _, _, _, _, _, _, _, by omega, ?_, rfl⟩ ?_
   · exact ⟨hst.1.congr fun x y z hx hy hz => by simp [fZ], hst.2⟩
   rintro k e' H1 ⟨p, A, y9, y10, y11, y12, y13, y14, y15, y16, y17, y18, y19, hpk, hst, rfl⟩
   have hd' := hst.2.2.1
   have hn1 := hst.2.2.2.next
   obtain ⟨w1, w2⟩ := VecI.at hd' (i := 0) (by simp)
   have w1' : iadV 1 dd (.int .i64 0) = some (.pointer (some ⟨c, 0, none⟩)) := w1
   have w2' : H1.cell c 0 = some (.int .i64 d0) := w2
   refine s_test ?_
   simp only [o_pure, o_nil, POp.ev, Opd.ev, gv, setD, xsj, xel, binV, load1V, ne_eq, xnt, if_false, w1', w2']
   refine Test.split (fun hlt => ?_) (fun hlt => ?_)
   · have hp : p ≤ d0 := by simpa using hlt
     refine s_skip1 ?_
     simp +decide only [pqn]
     refine s_block1 ?_
     refine s_reg ?_
     simp only [o_pure, o_nil, POp.ev, Opd.ev, setD, List.set, xsj, xel]
     refine s_block1 ?_
     refine s_loop1 (fun k e' H' => ∃ (q : Nat) (A : List Int) (y10 y11 y12 y13 y14 y15 y16 y17 y18 y19 : Value), q + k = d1 + 1 ∧ BeSt lim H b c a dd d0 d1 d2 A (fZ d2 p q fs) H' ∧ e' = [vp, vl, vh, vk, .slice none 0 0, .slice none 0 0, a, dd, .int .i64 p, .int .i64 q, y10, y11, y12, y13, y14, y15, y16, y17, y18, y19]) (d1 + 1) ⟨0, A, _, _, _, _, _, _, _, _, _, _, by omega, hst, rfl⟩ ?_
     clear hst hd' hn1 w1 w2 w1' w2'
     rintro k2 e' H1 ⟨q, A, y10, y11, y12, y13, y14, y15, y16, y17, y18, y19, hqk, hst, rfl⟩
     have hd' := hst.2.2.1
     have hn1 := hst.2.2.2.next
     obtain ⟨w1, w2⟩ := VecI.at hd' (i := 1) (by simp)
     have w1' : iadV 1 dd (.int .i64 1) = some (.pointer (some ⟨c, 1, none⟩)) := w1
     have w2' : H1.cell c 1 = some (.int .i64 d1) := w2
     refine s_test ?_
     simp only [o_pure, o_nil, POp.ev, Opd.ev, gv, setD, xsj, xel, binV, load1V, ne_eq, xnt, if_false, w1', w2']
     refine Test.split (fun hlt => ?_) (fun hlt => ?_)
     · have hq : q ≤ d1 := by simpa using hlt
       clear w1 w2 w1' w2'
       refine s_skip1 ?_
       simp +decide only [pqn]
       refine s_block1 ?_
       refine s_reg ?_
       simp only [o_pure, o_nil, POp.ev, Opd.ev, setD, List.set, xsj, xel]
       refine s_assoc (s_reg ?_)
       simp only [o_pure, o_nil, POp.ev, Opd.ev, setD, List.set, xsj, xel]
       refine s_block ?_
       refine s_loop1 (fun k e' H' => ∃ (l c1 : Nat) (ln : Value), l + k = d2 + 1 ∧ VecI H' c1 ln (((List.range l).map fun l => gp d1 d2 p q l).map fun (n : Nat) => (n : Int)) ∧ H1.next ≤ c1 ∧ Ext H1 H' ∧ e' = [vp, vl, vh, vk, .slice none 0 0, .slice none 0 0, a, dd, .int .i64 p, .int .i64 q, ln, .int .i64 l, y12, y13, y14, y15, y16, y17, y18, y19]) (d2 + 1) ⟨0, H1.next, _, by omega, Vec.nil _ _ _, Nat.le_refl _, Ext.refl _, rfl⟩ ?_
       rintro k3 e' H2 ⟨l, c1, ln, hlk, hln, hc1, hx2, rfl⟩
       have hn2 := hx2.next
       have hd2 := Vec.ext hd' hx2
       obtain ⟨w1, w2⟩ := VecI.at hd2 (i := 2) (by simp)
       have w1' : iadV 1 dd (.int .i64 2) = some (.pointer (some ⟨c, 2, none⟩)) := w1
       have w2' : H2.cell c 2 = some (.int .i64 d2) := w2
       refine s_test ?_
       simp only [o_pure, o_nil, POp.ev, Opd.ev, gv, setD, xsj, xel, binV, load1V, ne_eq, xnt, if_false, w1', w2']
       refine Test.split (fun hlt => ?_) (fun hlt => ?_)
       · have hl3 : l ≤ d2 := by simpa using hlt
         refine s_skip1 ?_
         simp +decide only [pqn]
         refine s_block1 ?_
         have hln' := hln
         simp only [VecI, List.length_map, List.length_range] at hln'
         obtain ⟨v', H6, b', e6, hv6, hb6', hlt6, c6, n6⟩ := push1 (lim := lim) (bytes := 8) hln' (vi ((gp d1 d2 p q l : Nat) : Int)) (by omega) (by omega)
         have hbs := bsliceV H2 (.int .i64 0) (x := vi ((gp d1 d2 p q l : Nat) : Int)) rfl
         refine s_reg1 ?_
         simp only [o_pure, o_callF, POp.ev, Opd.ev, gv, setD, List.map, xsj, xel]
         refine (at_ok lim dd d0 d1 d2 p q l H2 (Vec.sl hd2) (by omega) (by omega) (by omega) (by omega) (by omega)).eq ?_
         simp only [gp] at hbs e6 hv6 ⊢
         simp only [o_cont, o_pure, o_eff, o_nil, POp.ev, Opd.ev, EOp.ev, gv, setD, List.set, List.map, xsj, xel, hbs, e6]
         simp +decide only [pqn, pbn]
         refine s_reg1 ?_
         simp only [o_pure, o_nil, POp.ev, Opd.ev, gv, setD, List.set, xsj, xel, binV, ne_eq, xnt, if_false, add1 (i := l) (by omega)]
         simp +decide only [pqn]
         refine Round.mk (k3 - 1) (by omega) ⟨l + 1, b', v', by omega, ?_, by rcases hb6' with h | h <;> omega, Chg.ext hx2 c6 hc1, rfl⟩
         rw [range_snoc]
         refine VecI.snoc ?_
         rw [List.length_map, List.length_map, List.length_range]
         exact hv6
       · have hge : l = d2 + 1 := by simp at hlt; omega
         subst hge
         refine s_exit1 ?_
         simp +decide only [pqn, pqe, pbn, pbe, reduceIte]
         have hb1 : b < H1.next := (Vec.blk hst.2.1 (by rw [hst.1.1]; exact hpos)).elim fun _ h => h.2
         obtain ⟨lp1, lp2⟩ := (ln_props (d0 := d0) (d1 := d1) (d2 := d2)).1 p q hp hq
         have hvA := Vec.ext hst.2.1 hx2
         refine s_reg1 ?_
         simp only [o_pure, o_callF, POp.ev, Opd.ev, gv, setD, List.map, xsj, xel]
         refine (line_ok lim a ln A (lnZ d1 d2 p q) b c1 d2 H2 (by omega) (by omega) hvA hln (by omega) (by omega) (by simp [lnZ]) (by rw [hst.1.1]; exact hsz) (by rw [hst.1.1]; exact lp2) lp1).mono ?_
         rintro _ H3 ⟨A', ht, hvA', hch⟩
         simp only [o_cont, o_nil, setD]
         simp +decide only [pqn, pbn]
         refine s_reg1 ?_
         simp only [o_pure, o_nil, POp.ev, Opd.ev, gv, setD, List.set, xsj, xel, binV, ne_eq, xnt, if_false, add1 (i := q) (by omega)]
         simp +decide only [pqn]
         refine Round.mk (k2 - 1) (by omega) ⟨q + 1, A', _, _, _, _, _, _, _, _, _, _, by omega, ⟨?_, hvA', Vec.chg hd2 hch hcb, Chg.ext (hst.2.2.2.trans hx2) hch hbH⟩, rfl⟩
         refine (hst.1.turnZ hp hq ht).congr fun x y z hx hy hz => ?_
         by_cases hc : x = p ∧ y = q
         · obtain ⟨rfl, rfl⟩ := hc
           rw [show fZ d2 x y fs x y = fs x y from by funext z; simp [fZ]]
           simp [fZ]
         · simp only [hc, if_false, fZ]
           by_cases h1 : x < p ∨ (x = p ∧ y < q)
           · rw [if_pos h1, if_pos (by omega)]
           · rw [if_neg h1, if_neg (by omega)]
     · have hge : q = d1 + 1 := by simp at hlt; omega
       subst hge
       refine s_exit1 ?_
       simp +decide only [pqn, pqe, pbn, pbe, reduceIte]
       refine s_reg1 ?_
       simp only [o_pure, o_nil, POp.ev, Opd.ev, gv, setD, List.set, xsj, xel, binV, ne_eq, xnt, if_false, add1 (i := p) (by omega)]
       simp +decide only [pqn]
       refine Round.mk (k - 1) (by omega) ⟨p + 1, A, _, _, _, _, _, _, _, _, _, _, _, by omega, ⟨hst.1.congr fun x y z hx hy hz => ?_, hst.2⟩, rfl⟩
       simp only [fZ]
       by_cases h1 : x < p ∨ (x = p ∧ y < d1 + 1)
       · rw [if_pos h1, if_pos (by omega)]
       · rw [if_neg h1, if_neg (by omega)]
   · have hge : p = d0 + 1 := by simp at hlt; omega
     subst hge
     refine s_exit1 ?_
     simp +decide only [pqn, pqe, pbe, reduceIte]
     refine ⟨A, _, _, _, _, _, _, _, _, _, _, _, _, ⟨hst.1.congr fun x y z hx hy hz => ?_, hst.2⟩, rfl⟩
     simp only [fZ]
     rw [if_pos (by omega)]
 clear hst
 rintro e' H0' ⟨A, y8, y9, y10, y11, y12, y13, y14, y15, y16, y17, y18, y19, hst, rfl⟩
 subst hfs
 generalize hfs : (fun x y z => oneF d2 (f x y) z) = fs at hst
 refine s_cut (fun e' H' => ∃ (A : List Int) (y8 y9 y10 y11 y12 y13 y14 y15 y16 y17 y18 y19 : Value), BeSt lim H b c a dd d0 d1 d2 A (fun x y z => oneF d1 (fun y => fs x y z) y) H' ∧ e' = [vp, vl, vh, vk, .slice none 0 0, .slice none 0 0, a, dd, y8, y9, y10, y11, y12, y13, y14, y15, y16, y17, y18, y19]) ?_ ?_
 · -- turning Y
   refine s_reg ?_
   simp only [o_pure, o_nil, POp.ev, Opd.ev, setD, List.set, xsj, xel]
   refine s_block1 ?_
   refine s_loop1 (fun k e' H' => ∃ (p : Nat) (A : List Int) (y8 y9 y10 y11 y13 y14 y15 y16 y17 y18 y19 : Value), p + k = d0 + 1 ∧ BeSt lim H b c a dd d0 d1 d2 A (fY d1 p 0 fs) H' ∧ e' = [vp, vl, vh, vk, .slice none 0 0, .slice none 0 0, a, dd, y8, y9, y10, y11, .int .i64 p, y13, y14, y15, y16, y17, y18, y19]) (d0 + 1) ⟨0, A, _, _, _, _, _, _, _, _, _, _, _, by omega, ?_, rfl⟩ ?_
   · exact ⟨hst.1.congr fun x y z hx hy hz => by simp [fY], hst.2⟩
   rintro k e' H1 ⟨p, A, y8, y9, y10, y11, y13, y14, y15, y16, y17, y18, y19, hpk, hst, rfl⟩
   have hd' := hst.2.2.1
   have hn1 := hst.2.2.2.next
   obtain ⟨w1, w2⟩ := VecI.at hd' (i := 0) (by simp)
   have w1' : iadV 1 dd (.int .i64 0) = some (.pointer (some ⟨c, 0, none⟩)) := w1
   have w2' : H1.cell c 0 = some (.int .i64 d0) := w2
   refine s_test ?_
   simp only [o_pure, o_nil, POp.ev, Opd.ev, gv, setD, xsj, xel, binV, load1V, ne_eq, xnt, if_false, w1', w2']
   refine Test.split (fun hlt => ?_) (fun hlt => ?_)
   · have hp : p ≤ d0 := by simpa using hlt
     refine s_skip1 ?_
     simp +decide only [pqn]
     refine s_block1 ?_
     refine s_reg ?_
     simp only [o_pure, o_nil, POp.ev, Opd.ev, setD, List.set, xsj, xel]
     refine s_block1 ?_
     refine s_loop1 (fun k e' H' => ∃ (q : Nat) (A : List Int) (y8 y9 y10 y11 y14 y15 y16 y17 y18 y19 : Value), q + k = d2 + 1 ∧ BeSt lim H b c a dd d0 d1 d2 A (fY d1 p q fs) H' ∧ e' = [vp, vl, vh, vk, .slice none 0 0, .slice none 0 0, a, dd, y8, y9, y10, y11, .int .i64 p, .int .i64 q, y14, y15, y16, y17, y18, y19]) (d2 + 1) ⟨0, A, _, _, _, _, _, _, _, _, _, _, by omega, hst, rfl⟩ ?_
     clear hst hd' hn1 w1 w2 w1' w2'
     rintro k2 e' H1 ⟨q, A, y8, y9, y10, y11, y14, y15, y16, y17, y18, y19, hqk, hst, rfl⟩
     have hd' := hst.2.2.1
     have hn1 := hst.2.2.2.next
     obtain ⟨w1, w2⟩ := VecI.at hd' (i := 2) (by simp)
     have w1' : iadV 1 dd (.int .i64 2) = some (.pointer (some ⟨c, 2, none⟩)) := w1
     have w2' : H1.cell c 2 = some (.int .i64 d2) := w2
     refine s_test ?_
     simp only [o_pure, o_nil, POp.ev, Opd.ev, gv, setD, xsj, xel, binV, load1V, ne_eq, xnt, if_false, w1', w2']
     refine Test.split (fun hlt => ?_) (fun hlt => ?_)
     · have hq : q ≤ d2 := by simpa using hlt
       clear w1 w2 w1' w2'
       refine s_skip1 ?_
       simp +decide only [pqn]
       refine s_block1 ?_
       refine s_reg ?_
       simp only [o_pure, o_nil, POp.ev, Opd.ev, setD, List.set, xsj, xel]
       refine s_assoc (s_reg ?_)
       simp only [o_pure, o_nil, POp.ev, Opd.ev, setD, List.set, xsj, xel]
       refine s_block ?_
       refine s_loop1 (fun k e' H' => ∃ (l c1 : Nat) (ln : Value), l + k = d1 + 1 ∧ VecI H' c1 ln (((List.range l).map fun l => gp d1 d2 p l q).map fun (n : Nat) => (n : Int)) ∧ H1.next ≤ c1 ∧ Ext H1 H' ∧ e' = [vp, vl, vh, vk, .slice none 0 0, .slice none 0 0, a, dd, y8, y9, y10, y11, .int .i64 p, .int .i64 q, ln, .int .i64 l, y16, y17, y18, y19]) (d1 + 1) ⟨0, H1.next, _, by omega, Vec.nil _ _ _, Nat.le_refl _, Ext.refl _, rfl⟩ ?_
       rintro k3 e' H2 ⟨l, c1, ln, hlk, hln, hc1, hx2, rfl⟩
       have hn2 := hx2.next
       have hd2 := Vec.ext hd' hx2
       obtain ⟨w1, w2⟩ := VecI.at hd2 (i := 1) (by simp)
       have w1' : iadV 1 dd (.int .i64 1) = some (.pointer (some ⟨c, 1, none⟩)) := w1
       have w2' : H2.cell c 1 = some (.int .i64 d1) := w2
       refine s_test ?_
       simp only [o_pure, o_nil, POp.ev, Opd.ev, gv, setD, xsj, xel, binV, load1V, ne_eq, xnt, if_false, w1', w2']
       refine Test.split (fun hlt => ?_) (fun hlt => ?_)
       · have hl3 : l ≤ d1 := by simpa using hlt
         refine s_skip1 ?_
         simp +decide only [pqn]
         refine s_block1 ?_
         have hln' := hln
         simp only [VecI, List.length_map, List.length_range] at hln'
         obtain ⟨v', H6, b', e6, hv6, hb6', hlt6, c6, n6⟩ := push1 (lim := lim) (bytes := 8) hln' (vi ((gp d1 d2 p l q : Nat) : Int)) (by omega) (by omega)
         have hbs := bsliceV H2 (.int .i64 0) (x := vi ((gp d1 d2 p l q : Nat) : Int)) rfl
         refine s_reg1 ?_
         simp only [o_pure, o_callF, POp.ev, Opd.ev, gv, setD, List.map, xsj, xel]
         refine (at_ok lim dd d0 d1 d2 p l q H2 (Vec.sl hd2) (by omega) (by omega) (by omega) (by omega) (by omega)).eq ?_
         simp only [gp] at hbs e6 hv6 ⊢
         simp only [o_cont, o_pure, o_eff, o_nil, POp.ev, Opd.ev, EOp.ev, gv, setD, List.set, List.map, xsj, xel, hbs, e6]
         simp +decide only [pqn, pbn]
         refine s_reg1 ?_
         simp only [o_pure, o_nil, POp.ev, Opd.ev, gv, setD, List.set, xsj, xel, binV, ne_eq, xnt, if_false, add1 (i := l) (by omega)]
         simp +decide only [pqn]
         refine Round.mk (k3 - 1) (by omega) ⟨l + 1, b', v', by omega, ?_, by rcases hb6' with h | h <;> omega, Chg.ext hx2 c6 hc1, rfl⟩
         rw [range_snoc]
         refine VecI.snoc ?_
         rw [List.length_map, List.length_map, List.length_range]
         exact hv6
       · have hge : l = d1 + 1 := by simp at hlt; omega
         subst hge
         refine s_exit1 ?_
         simp +decide only [pqn, pqe, pbn, pbe, reduceIte]
         have hb1 : b < H1.next := (Vec.blk hst.2.1 (by rw [hst.1.1]; exact hpos)).elim fun _ h => h.2
         obtain ⟨lp1, lp2⟩ := (ln_props (d0 := d0) (d1 := d1) (d2 := d2)).2.1 p q hp hq
         have hvA := Vec.ext hst.2.1 hx2
         refine s_reg1 ?_
         simp only [o_pure, o_callF, POp.ev, Opd.ev, gv, setD, List.map, xsj, xel]
         refine (line_ok lim a ln A (lnY d1 d2 p q) b c1 d1 H2 (by omega) (by omega) hvA hln (by omega) (by omega) (by simp [lnY]) (by rw [hst.1.1]; exact hsz) (by rw [hst.1.1]; exact lp2) lp1).mono ?_
         rintro _ H3 ⟨A', ht, hvA', hch⟩
         simp only [o_cont, o_nil, setD]
         simp +decide only [pqn, pbn]
         refine s_reg1 ?_
         simp only [o_pure, o_nil, POp.ev, Opd.ev, gv, setD, List.set, xsj, xel, binV, ne_eq, xnt, if_false, add1 (i := q) (by omega)]
         simp +decide only [pqn]
         refine Round.mk (k2 - 1) (by omega) ⟨q + 1, A', _, _, _, _, _, _, _, _, _, _, by omega, ⟨?_, hvA', Vec.chg hd2 hch hcb, Chg.ext (hst.2.2.2.trans hx2) hch hbH⟩, rfl⟩
         refine (hst.1.turnY hp hq ht).congr fun x y z hx hy hz => ?_
         by_cases hc : x = p ∧ z = q
         · obtain ⟨rfl, rfl⟩ := hc
           simp [fY]
         · simp only [hc, if_false, fY]
           by_cases h1 : x < p ∨ (x = p ∧ z < q)
           · rw [if_pos h1, if_pos (by omega)]
           · rw [if_neg h1, if_neg (by omega)]
     · have hge : q = d2 + 1 := by simp at hlt; omega
       subst hge
       refine s_exit1 ?_
       simp +decide only [pqn, pqe, pbn, pbe, reduceIte]
       refine s_reg1 ?_
       simp only [o_pure, o_nil, POp.ev, Opd.ev, gv, setD, List.set, xsj, xel, binV, ne_eq, xnt, if_false, add1 (i := p) (by omega)]
       simp +decide only [pqn]
       refine Round.mk (k - 1) (by omega) ⟨p + 1, A, _, _, _, _, _, _, _, _, _, _, _, by omega, ⟨hst.1.congr fun x y z hx hy hz => ?_, hst.2⟩, rfl⟩
       simp only [fY]
       by_cases h1 : x < p ∨ (x = p ∧ z < d2 + 1)
       · rw [if_pos h1, if_pos (by omega)]
       · rw [if_neg h1, if_neg (by omega)]
   · have hge : p = d0 + 1 := by simp at hlt; omega
     subst hge
     refine s_exit1 ?_
     simp +decide only [pqn, pqe, pbe, reduceIte]
     refine ⟨A, _, _, _, _, _, _, _, _, _, _, _, _, ⟨hst.1.congr fun x y z hx hy hz => ?_, hst.2⟩, rfl⟩
     simp only [fY]
     rw [if_pos (by omega)]
 clear hst
 rintro e' H0' ⟨A, y8, y9, y10, y11, y12, y13, y14, y15, y16, y17, y18, y19, hst, rfl⟩
 subst hfs
 generalize hfs : (fun x y z => oneF d1 (fun y => oneF d2 (f x y) z) y) = fs at hst
 refine s_cut (fun e' H' => ∃ (A : List Int) (y8 y9 y10 y11 y12 y13 y14 y15 y16 y17 y18 y19 : Value), BeSt lim H b c a dd d0 d1 d2 A (fun x y z => oneF d0 (fun x => fs x y z) x) H' ∧ e' = [vp, vl, vh, vk, .slice none 0 0, .slice none 0 0, a, dd, y8, y9, y10, y11, y12, y13, y14, y15, y16, y17, y18, y19]) ?_ ?_
 · -- turning X
   refine s_reg ?_
   simp only [o_pure, o_nil, POp.ev, Opd.ev, setD, List.set, xsj, xel]
   refine s_block1 ?_
   refine s_loop1 (fun k e' H' => ∃ (p : Nat) (A : List Int) (y8 y9 y10 y11 y12 y13 y14 y15 y17 y18 y19 : Value), p + k = d1 + 1 ∧ BeSt lim H b c a dd d0 d1 d2 A (fX d0 p 0 fs) H' ∧ e' = [vp, vl, vh, vk, .slice none 0 0, .slice none 0 0, a, dd, y8, y9, y10, y11, y12, y13, y14, y15, .int .i64 p, y17, y18, y19]) (d1 + 1) ⟨0, A, _, _, _, _, _, _, _, _, _, _, _, by omega, ?_, rfl⟩ ?_
   · exact ⟨hst.1.congr fun x y z hx hy hz => by simp [fX], hst.2⟩
   rintro k e' H1 ⟨p, A, y8, y9, y10, y11, y12, y13, y14, y15, y17, y18, y19, hpk, hst, rfl⟩
   have hd' := hst.2.2.1
   have hn1 := hst.2.2.2.next
   obtain ⟨w1, w2⟩ := VecI.at hd' (i := 1) (by simp)
   have w1' : iadV 1 dd (.int .i64 1) = some (.pointer (some ⟨c, 1, none⟩)) := w1
   have w2' : H1.cell c 1 = some (.int .i64 d1) := w2
   refine s_test ?_
   simp only [o_pure, o_nil, POp.ev, Opd.ev, gv, setD, xsj, xel, binV, load1V, ne_eq, xnt, if_false, w1', w2']
   refine Test.split (fun hlt => ?_) (fun hlt => ?_)
   · have hp : p ≤ d1 := by simpa using hlt
     refine s_skip1 ?_
     simp +decide only [pqn]
     refine s_block1 ?_
     refine s_reg ?_
     simp only [o_pure, o_nil, POp.ev, Opd.ev, setD, List.set, xsj, xel]
     refine s_block1 ?_
     refine s_loop1 (fun k e' H' => ∃ (q : Nat) (A : List Int) (y8 y9 y10 y11 y12 y13 y14 y15 y18 y19 : Value), q + k = d2 + 1 ∧ BeSt lim H b c a dd d0 d1 d2 A (fX d0 p q fs) H' ∧ e' = [vp, vl, vh, vk, .slice none 0 0, .slice none 0 0, a, dd, y8, y9, y10, y11, y12, y13, y14, y15, .int .i64 p, .int .i64 q, y18, y19]) (d2 + 1) ⟨0, A, _, _, _, _, _, _, _, _, _, _, by omega, hst, rfl⟩ ?_
     clear hst hd' hn1 w1 w2 w1' w2'
     rintro k2 e' H1 ⟨q, A, y8, y9, y10, y11, y12, y13, y14, y15, y18, y19, hqk, hst, rfl⟩
     have hd' := hst.2.2.1
     have hn1 := hst.2.2.2.next
     obtain ⟨w1, w2⟩ := VecI.at hd' (i := 2) (by simp)
     have w1' : iadV 1 dd (.int .i64 2) = some (.pointer (some ⟨c, 2, none⟩)) := w1
     have w2' : H1.cell c 2 = some (.int .i64 d2) := w2
     refine s_test ?_
     simp only [o_pure, o_nil, POp.ev, Opd.ev, gv, setD, xsj, xel, binV, load1V, ne_eq, xnt, if_false, w1', w2']
     refine Test.split (fun hlt => ?_) (fun hlt => ?_)
     · have hq : q ≤ d2 := by simpa using hlt
       clear w1 w2 w1' w2'
       refine s_skip1 ?_
       simp +decide only [pqn]
       refine s_block1 ?_
       refine s_reg ?_
       simp only [o_pure, o_nil, POp.ev, Opd.ev, setD, List.set, xsj, xel]
       refine s_assoc (s_reg ?_)
       simp only [o_pure, o_nil, POp.ev, Opd.ev, setD, List.set, xsj, xel]
       refine s_block ?_
       refine s_loop1 (fun k e' H' => ∃ (l c1 : Nat) (ln : Value), l + k = d0 + 1 ∧ VecI H' c1 ln (((List.range l).map fun l => gp d1 d2 l p q).map fun (n : Nat) => (n : Int)) ∧ H1.next ≤ c1 ∧ Ext H1 H' ∧ e' = [vp, vl, vh, vk, .slice none 0 0, .slice none 0 0, a, dd, y8, y9, y10, y11, y12, y13, y14, y15, .int .i64 p, .int .i64 q, ln, .int .i64 l]) (d0 + 1) ⟨0, H1.next, _, by omega, Vec.nil _ _ _, Nat.le_refl _, Ext.refl _, rfl⟩ ?_
       rintro k3 e' H2 ⟨l, c1, ln, hlk, hln, hc1, hx2, rfl⟩
       have hn2 := hx2.next
       have hd2 := Vec.ext hd' hx2
       obtain ⟨w1, w2⟩ := VecI.at hd2 (i := 0) (by simp)
       have w1' : iadV 1 dd (.int .i64 0) = some (.pointer (some ⟨c, 0, none⟩)) := w1
       have w2' : H2.cell c 0 = some (.int .i64 d0) := w2
       refine s_test ?_
       simp only [o_pure, o_nil, POp.ev, Opd.ev, gv, setD, xsj, xel, binV, load1V, ne_eq, xnt, if_false, w1', w2']
       refine Test.split (fun hlt => ?_) (fun hlt => ?_)
       · have hl3 : l ≤ d0 := by simpa using hlt
         refine s_skip1 ?_
         simp +decide only [pqn]
         refine s_block1 ?_
         have hln' := hln
         simp only [VecI, List.length_map, List.length_range] at hln'
         obtain ⟨v', H6, b', e6, hv6, hb6', hlt6, c6, n6⟩ := push1 (lim := lim) (bytes := 8) hln' (vi ((gp d1 d2 l p q : Nat) : Int)) (by omega) (by omega)
         have hbs := bsliceV H2 (.int .i64 0) (x := vi ((gp d1 d2 l p q : Nat) : Int)) rfl
         refine s_reg1 ?_
         simp only [o_pure, o_callF, POp.ev, Opd.ev, gv, setD, List.map, xsj, xel]
         refine (at_ok lim dd d0 d1 d2 l p q H2 (Vec.sl hd2) (by omega) (by omega) (by omega) (by omega) (by omega)).eq ?_
         simp only [gp] at hbs e6 hv6 ⊢
         simp only [o_cont, o_pure, o_eff, o_nil, POp.ev, Opd.ev, EOp.ev, gv, setD, List.set, List.map, xsj, xel, hbs, e6]
         simp +decide only [pqn, pbn]
         refine s_reg1 ?_
         simp only [o_pure, o_nil, POp.ev, Opd.ev, gv, setD, List.set, xsj, xel, binV, ne_eq, xnt, if_false, add1 (i := l) (by omega)]
         simp +decide only [pqn]
         refine Round.mk (k3 - 1) (by omega) ⟨l + 1, b', v', by omega, ?_, by rcases hb6' with h | h <;> omega, Chg.ext hx2 c6 hc1, rfl⟩
         rw [range_snoc]
         refine VecI.snoc ?_
         rw [List.length_map, List.length_map, List.length_range]
         exact hv6
       · have hge : l = d0 + 1 := by simp at hlt; omega
         subst hge
         refine s_exit1 ?_
         simp +decide only [pqn, pqe, pbn, pbe, reduceIte]
         have hb1 : b < H1.next := (Vec.blk hst.2.1 (by rw [hst.1.1]; exact hpos)).elim fun _ h => h.2
         obtain ⟨lp1, lp2⟩ := (ln_props (d0 := d0) (d1 := d1) (d2 := d2)).2.2 p q hp hq
         have hvA := Vec.ext hst.2.1 hx2
         refine s_reg1 ?_
         simp only [o_pure, o_callF, POp.ev, Opd.ev, gv, setD, List.map, xsj, xel]
         refine (line_ok lim a ln A (lnX d0 d1 d2 p q) b c1 d0 H2 (by omega) (by omega) hvA hln (by omega) (by omega) (by simp [lnX]) (by rw [hst.1.1]; exact hsz) (by rw [hst.1.1]; exact lp2) lp1).mono ?_
         rintro _ H3 ⟨A', ht, hvA', hch⟩
         simp only [o_cont, o_nil, setD]
         simp +decide only [pqn, pbn]
         refine s_reg1 ?_
         simp only [o_pure, o_nil, POp.ev, Opd.ev, gv, setD, List.set, xsj, xel, binV, ne_eq, xnt, if_false, add1 (i := q) (by omega)]
         simp +decide only [pqn]
         refine Round.mk (k2 - 1) (by omega) ⟨q + 1, A', _, _, _, _, _, _, _, _, _, _, by omega, ⟨?_, hvA', Vec.chg hd2 hch hcb, Chg.ext (hst.2.2.2.trans hx2) hch hbH⟩, rfl⟩
         refine (hst.1.turnX hp hq ht).congr fun x y z hx hy hz => ?_
         by_cases hc : y = p ∧ z = q
         · obtain ⟨rfl, rfl⟩ := hc
           simp [fX]
         · simp only [hc, if_false, fX]
           by_cases h1 : y < p ∨ (y = p ∧ z < q)
           · rw [if_pos h1, if_pos (by omega)]
           · rw [if_neg h1, if_neg (by omega)]
     · have hge : q = d2 + 1 := by simp at hlt; omega
       subst hge
       refine s_exit1 ?_
       simp +decide only [pqn, pqe, pbn, pbe, reduceIte]
       refine s_reg1 ?_
       simp only [o_pure, o_nil, POp.ev, Opd.ev, gv, setD, List.set, xsj, xel, binV, ne_eq, xnt, if_false, add1 (i := p) (by omega)]
       simp +decide only [pqn]
       refine Round.mk (k - 1) (by omega) ⟨p + 1, A, _, _, _, _, _, _, _, _, _, _, _, by omega, ⟨hst.1.congr fun x y z hx hy hz => ?_, hst.2⟩, rfl⟩
       simp only [fX]
       by_cases h1 : y < p ∨ (y = p ∧ z < d2 + 1)
       · rw [if_pos h1, if_pos (by omega)]
       · rw [if_neg h1, if_neg (by omega)]
   · have hge : p = d1 + 1 := by simp at hlt; omega
     subst hge
     refine s_exit1 ?_
     simp +decide only [pqn, pqe, pbe, reduceIte]
     refine ⟨A, _, _, _, _, _, _, _, _, _, _, _, _, ⟨hst.1.congr fun x y z hx hy hz => ?_, hst.2⟩, rfl⟩
     simp only [fX]
     rw [if_pos (by omega)]
 clear hst
 rintro e' H0' ⟨A, y8, y9, y10, y11, y12, y13, y14, y15, y16, y17, y18, y19, hst, rfl⟩
 subst hfs
 refine s_reg ?_
 simp only [o_pure, o_nil, POp.ev, Opd.ev, gv, setD, List.set, xsj, xel]
 refine s_ret1 ?_
 simp +decide only [pfr, resV, resOne, resL, gv, xsj, xel, Option.bind_some, xms]
 exact ⟨a, dd, A, rfl, hst.1, Vec.sl hst.2.1, hst.2.2.2⟩
theorem l1Least_ok (lim : Nat) (a b : Int) (H : AHeap) : ACalls Tryz.prog lim n_spec_l1Least [.int .i64 a, .int .i64 b] H fun v H' => v = .int .i64 (if a < b then a else b) ∧ H' = H := by
 refine is_spec_l1Least.go rfl ?_
 unfold c_spec_l1Least
 refine s_reg ?_
 simp only [o_pure, o_nil, POp.ev, Opd.ev, env0, gu, setD, List.set, xsj, xel]
 refine s_test ?_
 simp only [o_pure, o_nil, POp.ev, Opd.ev, gv, setD, xsj, xel, binV, ne_eq, xnt, if_false]
 refine Test.split (fun h => ?_) (fun h => ?_)
 · have h' : a < b := by simpa using h
   refine s_reg ?_
   simp only [o_pure, o_nil, POp.ev, Opd.ev, gv, setD, List.set, xsj, xel]
   refine s_ret1 ?_
   simp +decide only [pqr, pfr, resV, resOne, gv, xsj, xel]
   rw [if_pos h']
   exact ⟨rfl, trivial⟩
 · have h' : ¬ a < b := by simpa using h
   refine s_skip1 ?_
   simp +decide only [pqn]
   refine s_reg ?_
   simp only [o_pure, o_nil, POp.ev, Opd.ev, gv, setD, List.set, xsj, xel]
   refine s_ret1 ?_
   simp +decide only [pfr, resV, resOne, gv, xsj, xel]
   rw [if_neg h']
   exact ⟨rfl, trivial⟩
theorem dyPower_ok (lim k : Nat) (H : AHeap) (hk : k ≤ 40) : ACalls Tryz.prog lim n_spec_dyPower [.int .i64 k] H fun v H' => v = .int .i64 (wr (2 ^ k)) ∧ H' = H := by
 refine is_spec_dyPower.go rfl ?_
 unfold c_spec_dyPower
 have e1 : IntKind.u64.wrap (k : Int) = (k : Int) := by
   have : IntKind.u64.wrap (k : Int) = (k : Int) % 18446744073709551616 := rfl
   rw [this]; omega
 have e2 : ¬ ((k : Int) < 0) := by omega
 have e3 : min ((k : Int)).toNat IntKind.i64.bits = k := by
   show min ((k : Int)).toNat 64 = k
   omega
 refine s_reg ?_
 simp only [o_pure, o_nil, POp.ev, Opd.ev, env0, gu, setD, List.set, xsj, xel]
 refine s_reg ?_
 simp only [o_pure, o_nil, POp.ev, Opd.ev, gv, setD, List.set, xsj, xel, binV, convV, if_false, e1, e2, e3, Int.one_mul]
 refine s_ret1 ?_
 simp +decide only [pfr, resV, resOne, gv, xsj, xel]
def degA : Int → List Tm → Int
 | m, [] => m
 | m, t :: l => degA (if m > t.x + t.y + t.z then m else t.x + t.y + t.z) l
theorem poDegree_ok (lim : Nat) (s : Value) (p : List Tm) (H : AHeap) (hl : lim ≤ H.next) (hs : SlT H s p) (hn : p.length ≤ 1000000000) (hp : ∀ t ∈ p, 0 ≤ t.x ∧ t.x ≤ 4 ∧ 0 ≤ t.y ∧ t.y ≤ 4 ∧ 0 ≤ t.z ∧ t.z ≤ 4) :
   ACalls Tryz.prog lim n_spec_poDegree [s] H fun v H' => v = .int .i64 (degA (-1) p) ∧ Ext H H' := by
 refine is_spec_poDegree.go rfl ?_
 unfold c_spec_poDegree
 refine s_reg ?_
 simp only [o_pure, o_nil, POp.ev, Opd.ev, env0, gu, setD, List.set, xsj, xel]
 refine s_reg ?_
 simp only [o_pure, o_nil, POp.ev, Opd.ev, setD, List.set, xsj, xel]
 refine s_assoc (s_reg ?_)
 simp only [o_pure, o_nil, POp.ev, Opd.ev, gv, setD, List.set, xsj, xel, hs.lenV]
 refine s_block ?_
 refine s_loop1 (fun j e' H' => ∃ (i : Nat) (m : Int) (y : Value), i + j = p.length ∧ degA (-1) p = degA m (p.drop i) ∧ Ext H H' ∧ e' = [s, .int .i64 0, .int .i64 m, y, s, .int .i64 p.length, .int .i64 i]) p.length ⟨0, -1, _, by omega, rfl, Ext.refl _, rfl⟩ ?_
 rintro j e' H' ⟨i, m, y, hik, hall, hx, rfl⟩
 have hnx := hx.next
 refine s_test ?_
 simp only [o_pure, o_nil, POp.ev, Opd.ev, gv, setD, xsj, xel, binV, ne_eq, xnt, if_false]
 refine Test.split (fun hlt => ?_) (fun hlt => ?_)
 · have hlt' : i < p.length := by simpa using hlt
   obtain ⟨b1, o1, h1, hat⟩ := (hs.ext hx).at hlt'
   rw [List.drop_eq_getElem_cons hlt', degA] at hall
   obtain ⟨q1, q2, q3, q4, q5, q6⟩ := hp _ (List.getElem_mem hlt')
   have e1 : IntKind.i64.wrap (p[i].x + p[i].y) = p[i].x + p[i].y := wr_id (by omega) (by omega)
   have e2 : IntKind.i64.wrap (p[i].x + p[i].y + p[i].z) = p[i].x + p[i].y + p[i].z := wr_id (by omega) (by omega)
   refine s_skip1 ?_
   simp +decide only [pqn]
   refine s_block ?_
   refine s_reg ?_
   simp only [o_pure, o_eff, o_nil, POp.ev, Opd.ev, EOp.ev, gv, setD, List.set, xsj, xel, h1, hat.all, store4_new (lim := lim) (H := H') (by omega)]
   have hB := BoxT.mk' H' p[i]
   generalize H'.alloc (tc p[i]) = H1 at hB ⊢
   generalize H'.next = q at hB hnx ⊢
   have hx1 := hx.trans hB.ext
   refine s_reg1 ?_
   simp only [o_pure, o_callF, POp.ev, Opd.ev, gv, setD, List.map, xsj, xel, binV, load1V, fadV, ne_eq, xnt, if_false, Nat.zero_add, hB.c1, hB.c2, hB.c3, e1, e2]
   refine (l1Most_ok _ _ _ _).eq ?_
   simp only [o_cont, o_pure, o_nil, POp.ev, Opd.ev, gv, setD, List.set, xsj, xel]
   simp +decide only [pqn, pbn]
   refine s_reg1 ?_
   simp only [o_pure, o_nil, POp.ev, Opd.ev, gv, setD, List.set, xsj, xel, binV, ne_eq, xnt, if_false, add1 (i := i) (by omega)]
   simp +decide only [pqn]
   exact Round.mk (j - 1) (by omega) ⟨i + 1, _, _, by omega, hall, hx1, rfl⟩
 · have hge : i = p.length := by simp at hlt; omega
   subst hge
   refine s_exit1 ?_
   simp +decide only [pqn, pqe, pbe, reduceIte]
   refine s_reg ?_
   simp only [o_pure, o_nil, POp.ev, Opd.ev, gv, setD, List.set, xsj, xel]
   refine s_ret1 ?_
   simp +decide only [pfr, resV, resOne, gv, xsj, xel]
   rw [List.drop_length, degA] at hall
   rw [hall]
   exact ⟨rfl, hx⟩
def dgS (p : List Tm) (L U : List Int) (k : Nat) : Int := if k < L.length ∧ U.getD k 0 > L.getD k 0 then (if (0 : Int) > degF k (-1) p then 0 else degF k (-1) p) else 0
theorem degrees_ok (lim : Nat) (s l h : Value) (p : List Tm) (L U : List Int) (H : AHeap) (hl : lim ≤ H.next) (hs : SlT H s p) (hL : SlI H l L) (hU : SlI H h U) (hn : p.length ≤ 1000000000) (hn1 : L.length ≤ 3) (hn2 : U.length = L.length) :
   ACalls Tryz.prog lim n_spec_beDegrees [s, l, h] H fun v H' => ∃ b, H.next ≤ b ∧ b < H'.next ∧ VecI H' b v [dgS p L U 0, dgS p L U 1, dgS p L U 2] ∧ Ext H H' := by
 refine is_spec_beDegrees.go rfl ?_
 unfold c_spec_beDegrees
 refine s_reg ?_
 simp only [o_pure, o_nil, POp.ev, Opd.ev, env0, gu, setD, List.set, xsj, xel]
 have hb : bsliceH H 3 [.int .i64 0, .int .i64 0, .int .i64 0] [(0, 1, .int .i64 0), (1, 1, .int .i64 0), (2, 1, .int .i64 0)] = some (.slice (some ⟨H.next, 0, some 0⟩) 3 3, H.alloc [.int .i64 0, .int .i64 0, .int .i64 0]) := rfl
 refine s_reg ?_
 simp only [o_pure, o_eff, o_nil, POp.ev, Opd.ev, EOp.ev, gv, setD, List.set, List.map, xsj, xel, hb]
 have hv : VecI (H.alloc [.int .i64 0, .int .i64 0, .int .i64 0]) H.next (.slice (some ⟨H.next, 0, some 0⟩) 3 3) [0, 0, 0] := Vec.lit rfl
 have hx := Ext.alloc H [Value.int .i64 0, .int .i64 0, .int .i64 0]
 generalize H.alloc [Value.int .i64 0, .int .i64 0, .int .i64 0] = H1 at hv hx ⊢
 generalize (Value.slice (some ⟨H.next, 0, some 0⟩) 3 3) = v at hv ⊢
 have hL1 := (show SlI H l L from hL).lenV
 refine s_assoc (s_reg ?_)
 simp only [o_pure, o_nil, POp.ev, Opd.ev, gv, setD, List.set, xsj, xel, hL1]
 refine s_block ?_
 refine s_loop1 (fun j e' H' => ∃ (i : Nat) (y : Value), i + j = L.length ∧ VecI H' H.next v [if 0 < i then dgS p L U 0 else 0, if 1 < i then dgS p L U 1 else 0, if 2 < i then dgS p L U 2 else 0] ∧ Ext H H' ∧ e' = [s, l, h, .slice none 0 0, v, y, .int .i64 L.length, .int .i64 i]) L.length ⟨0, _, by omega, hv, hx, rfl⟩ ?_
 clear hv hx
 rintro j e' H2 ⟨i, y, hij, hv, hx, rfl⟩
 have hn2' := hx.next
 refine s_test ?_
 simp only [o_pure, o_nil, POp.ev, Opd.ev, gv, setD, xsj, xel, binV, ne_eq, xnt, if_false]
 refine Test.split (fun hlt => ?_) (fun hlt => ?_)
 · have hlt' : i < L.length := by simpa using hlt
   obtain ⟨b1, o1, u1, _, u2⟩ := SlI.get (show SlI H2 l L from hL.keep (Keep.of_ext hx (Nat.le_refl _)) (Nat.le_refl _)) hlt'
   obtain ⟨b2, o2, w1, _, w2⟩ := SlI.get (show SlI H2 h U from hU.keep (Keep.of_ext hx (Nat.le_refl _)) (Nat.le_refl _)) (i := i) (by omega)
   have g1 : L.getD i 0 = L[i] := by simp [hlt']
   have g2 : U.getD i 0 = U[i]'(by omega) := by simp [show i < U.length by omega]
   refine s_skip1 ?_
   simp +decide only [pqn]
   refine s_block1 ?_
   refine s_reg ?_
   simp only [o_pure, o_nil, POp.ev, Opd.ev, gv, setD, List.set, xsj, xel]
   refine s_test1 ?_
   simp only [o_pure, o_nil, POp.ev, Opd.ev, gv, setD, xsj, xel, binV, load1V, ne_eq, xnt, if_false, u1, u2, w1, w2]
   refine Test.split (fun hgt => ?_) (fun hgt => ?_)
   · have hgt' : U.getD i 0 > L.getD i 0 := by rw [g1, g2]; simpa using hgt
     refine s_reg1 ?_
     simp only [o_pure, o_callF, POp.ev, Opd.ev, gv, setD, List.map, xsj, xel]
     refine (poDegreeIn_ok lim s p i H2 (by omega) (hs.ext hx) hn).mono ?_
     rintro _ H3 ⟨rfl, hx3⟩
     have hn3 := hx3.next
     simp only [o_cont, o_callF, Opd.ev, gv, setD, List.map]
     refine (l1Most_ok _ _ _ _).eq ?_
     obtain ⟨q1, _⟩ := VecI.at (Vec.ext hv hx3) (i := i) (by simp; omega)
     obtain ⟨cs, hst, hv'⟩ := VecI.put (lim := lim) (Vec.ext hv hx3) hl (i := i) (by simp; omega) (if (0 : Int) > degF i (-1) p then 0 else degF i (-1) p)
     simp only [o_cont, o_pure, o_eff, o_nil, POp.ev, Opd.ev, EOp.ev, gv, setD, xsj, xel, q1, hst]
     simp +decide only [pqn, pbn]
     refine s_reg1 ?_
     simp only [o_pure, o_nil, POp.ev, Opd.ev, gv, setD, List.set, xsj, xel, binV, ne_eq, xnt, if_false, add1 (i := i) (by omega)]
     simp +decide only [pqn]
     refine Round.mk (j - 1) (by omega) ⟨i + 1, _, by omega, ?_, Chg.ext (hx.trans hx3) (Chg.put _ _ _) (Nat.le_refl _), rfl⟩
     have hd : dgS p L U i = (if (0 : Int) > degF i (-1) p then 0 else degF i (-1) p) := by rw [dgS, if_pos ⟨hlt', hgt'⟩]
     rw [← hd] at hv'
     have hi3 : i = 0 ∨ i = 1 ∨ i = 2 := by omega
     rcases hi3 with rfl | rfl | rfl <;> simpa using hv'
   · have hgt' : ¬ U.getD i 0 > L.getD i 0 := by rw [g1, g2]; simpa using hgt
     refine s_skip1 ?_
     simp +decide only [pqn, pbn]
     refine s_reg1 ?_
     simp only [o_pure, o_nil, POp.ev, Opd.ev, gv, setD, List.set, xsj, xel, binV, ne_eq, xnt, if_false, add1 (i := i) (by omega)]
     simp +decide only [pqn]
     refine Round.mk (j - 1) (by omega) ⟨i + 1, _, by omega, ?_, hx, rfl⟩
     have hd : dgS p L U i = 0 := by rw [dgS, if_neg (fun h => hgt' h.2)]
     have hi3 : i = 0 ∨ i = 1 ∨ i = 2 := by omega
     rcases hi3 with rfl | rfl | rfl <;> simpa [hd] using hv
 · have hge : i = L.length := by simp at hlt; omega
   subst hge
   refine s_exit1 ?_
   simp +decide only [pqn, pqe, pbe, reduceIte]
   refine s_reg ?_
   simp only [o_pure, o_nil, POp.ev, Opd.ev, gv, setD, List.set, xsj, xel]
   refine s_ret1 ?_
   simp +decide only [pfr, resV, resOne, gv, xsj, xel]
   have hz : ∀ k, (if k < L.length then dgS p L U k else 0) = dgS p L U k := by
     intro k
     split
     · rfl
     · rename_i h
       rw [dgS, if_neg (fun e => h e.1)]
   rw [hz, hz, hz] at hv
   refine ⟨H.next, Nat.le_refl _, (Vec.blk hv (by simp)).elim fun _ h => h.2, hv, hx⟩
def tmC (k : Nat) (deg : Int) (t : Tm) : Int × List Nat := (t.c * ((2 : Int) ^ k) ^ (deg - t.x - t.y - t.z).toNat, [t.x.toNat, t.y.toNat, t.z.toNat])
theorem IsG.add {d0 d1 d2 x y z : Nat} {A : List Int} {f : Nat → Nat → Nat → Int} (h : IsG d0 d1 d2 A f) (hx : x ≤ d0) (hy : y ≤ d1) (hz : z ≤ d2) (u : Int) :
   IsG d0 d1 d2 (A.set (gp d1 d2 x y z) (wr (A.getD (gp d1 d2 x y z) 0 + wr u))) fun x' y' z' => f x' y' z' + if x' = x ∧ y' = y ∧ z' = z then u else 0 := by
 refine ⟨by rw [List.length_set]; exact h.1, fun x' y' z' hx' hy' hz' => ?_⟩
 rw [getD_set _ _ _ _ (by rw [h.1]; exact gp_lt hx hy hz)]
 by_cases hc : x' = x ∧ y' = y ∧ z' = z
 · obtain ⟨rfl, rfl, rfl⟩ := hc
   rw [if_pos rfl]
   show _ = wr (f x' y' z' + if x' = x' ∧ y' = y' ∧ z' = z' then u else 0)
   rw [if_pos (show x' = x' ∧ y' = y' ∧ z' = z' from ⟨rfl, rfl, rfl⟩), h.2 _ _ _ hx hy hz]
   exact wr_add _ _
 · rw [if_neg (fun e => by obtain ⟨e1, e2, e3⟩ := gp_inj hy' hz' hy hz e; exact hc ⟨e1, e2, e3⟩)]
   show _ = wr (f x' y' z' + if x' = x ∧ y' = y ∧ z' = z then u else 0)
   rw [if_neg hc, h.2 _ _ _ hx' hy' hz', Int.add_zero]
theorem getD_replicate (n i : Nat) : (List.replicate n (0 : Int)).getD i 0 = 0 := by
 rw [List.getD_eq_getElem?_getD, List.getElem?_replicate]
 split <;> rfl
def GrSt (H : AHeap) (c bo lb mb q : Nat) (dd a lv mv : Value) (d0 d1 d2 : Nat) (L U : List Int) (t : Tm) (f : Nat → Nat → Nat → Int) (A : List Int) (H' : AHeap) : Prop :=
 IsG d0 d1 d2 A f ∧ VecI H' c dd [(d0 : Int), (d1 : Int), (d2 : Int)] ∧ VecI H' bo a A ∧ VecI H' lb lv [L.getD 0 0, L.getD 1 0, L.getD 2 0] ∧ VecI H' mb mv [U.getD 0 0, U.getD 1 0, U.getD 2 0] ∧ BoxT H H' q t ∧ bo < H'.next ∧ mb < H'.next
theorem prt_gt (lo hi : Int) {e j : Nat} (he : e ≤ 4) (hj : j ≤ 4) (h : e < j) : prt lo hi e j = 0 := by
 unfold prt
 rw [chs_gt ⟨e, by omega⟩ ⟨j, by omega⟩ h]
 simp
theorem grid_ok (lim : Nat) (s l h : Value) (p : List Tm) (L U : List Int) (k d0 d1 d2 : Nat) (H : AHeap) (hl : lim ≤ H.next) (hs : SlT H s p) (hL : SlI H l L) (hU : SlI H h U) (hn : p.length ≤ 1000000000) (hn1 : L.length ≤ 3) (hn2 : U.length = L.length) (hk : k ≤ 4)
   (hp : ∀ t ∈ p, 0 ≤ t.x ∧ t.x ≤ 4 ∧ 0 ≤ t.y ∧ t.y ≤ 4 ∧ 0 ≤ t.z ∧ t.z ≤ 4) (hdeg : ∀ t ∈ p, t.x + t.y + t.z ≤ degA (-1) p) (hdeg4 : degA (-1) p ≤ 4) (e0 : dgS p L U 0 = d0) (e1 : dgS p L U 1 = d1) (e2 : dgS p L U 2 = d2) (b0 : d0 ≤ 4) (b1 : d1 ≤ 4) (b2 : d2 ≤ 4) :
   ACalls Tryz.prog lim n_spec_beGrid [s, l, h, .int .i64 k] H fun v H' => ∃ (a dd : Value) (b c : Nat) (A : List Int), v = .tuple #[a, dd] ∧ H.next ≤ b ∧ H.next ≤ c ∧ c ≠ b ∧ b < H'.next ∧
     IsG d0 d1 d2 A (gridF (p.map (tmC k (degA (-1) p))) ⟨L.getD 0 0, U.getD 0 0, d0⟩ ⟨L.getD 1 0, U.getD 1 0, d1⟩ ⟨L.getD 2 0, U.getD 2 0, d2⟩) ∧ VecI H' b a A ∧ VecI H' c dd [(d0 : Int), (d1 : Int), (d2 : Int)] ∧ Ext H H' := by
 refine is_spec_beGrid.go rfl ?_
 unfold c_spec_beGrid
 have hsz : (d0 + 1) * (d1 + 1) * (d2 + 1) ≤ 1000 := Nat.le_trans (Nat.mul_le_mul (Nat.mul_le_mul (show d0 + 1 ≤ 5 by omega) (show d1 + 1 ≤ 5 by omega)) (show d2 + 1 ≤ 5 by omega)) (by decide)
 have hsz1 : (d0 + 1) * (d1 + 1) ≤ 25 := Nat.mul_le_mul (show d0 + 1 ≤ 5 by omega) (show d1 + 1 ≤ 5 by omega)
 refine s_reg ?_
 simp only [o_pure, o_nil, POp.ev, Opd.ev, env0, gu, setD, List.set, xsj, xel, ne_eq]
 refine s_reg ?_
 simp only [o_pure, o_callF, POp.ev, Opd.ev, gv, setD, List.map, xsj, xel]
 refine (degrees_ok lim s l h p L U H hl hs hL hU hn hn1 hn2).mono ?_
 rintro dd H1 ⟨c, hc0, hc1, hdd, hx1⟩
 rw [e0, e1, e2] at hdd
 have hn1' := hx1.next
 simp only [o_cont, o_pure, o_nil, POp.ev, Opd.ev, gv, setD, List.set, xsj, xel]
 obtain ⟨w0, w0c⟩ := VecI.at hdd (i := 0) (by simp)
 obtain ⟨w1, w1c⟩ := VecI.at hdd (i := 1) (by simp)
 obtain ⟨w2, w2c⟩ := VecI.at hdd (i := 2) (by simp)
 have w0' : iadV 1 dd (.int .i64 0) = some (.pointer (some ⟨c, 0, none⟩)) := w0
 have w1' : iadV 1 dd (.int .i64 1) = some (.pointer (some ⟨c, 1, none⟩)) := w1
 have w2' : iadV 1 dd (.int .i64 2) = some (.pointer (some ⟨c, 2, none⟩)) := w2
 have w0c' : H1.cell c 0 = some (.int .i64 d0) := w0c
 have w1c' : H1.cell c 1 = some (.int .i64 d1) := w1c
 have w2c' : H1.cell c 2 = some (.int .i64 d2) := w2c
 have f0 : IntKind.i64.wrap ((d0 : Int) + 1) = ((d0 + 1 : Nat) : Int) := wr_nat (n := d0 + 1) (by omega)
 have f1 : IntKind.i64.wrap ((d1 : Int) + 1) = ((d1 + 1 : Nat) : Int) := wr_nat (n := d1 + 1) (by omega)
 have f2 : IntKind.i64.wrap ((d2 : Int) + 1) = ((d2 + 1 : Nat) : Int) := wr_nat (n := d2 + 1) (by omega)
 have f3 : IntKind.i64.wrap (((d0 + 1 : Nat) : Int) * ((d1 + 1 : Nat) : Int)) = (((d0 + 1) * (d1 + 1) : Nat) : Int) := wr_nat (n := (d0 + 1) * (d1 + 1)) (by omega)
 have f4 : IntKind.i64.wrap ((((d0 + 1) * (d1 + 1) : Nat) : Int) * ((d2 + 1 : Nat) : Int)) = (((d0 + 1) * (d1 + 1) * (d2 + 1) : Nat) : Int) := wr_nat (n := (d0 + 1) * (d1 + 1) * (d2 + 1)) (by omega)
 generalize hN : (d0 + 1) * (d1 + 1) * (d2 + 1) = N at *
 have hmk := mkslice_int (H := H1) 8 N N [.int .i64 0] (Nat.le_refl _) (by omega) (by omega)
 rw [zerosL_one] at hmk
 refine s_reg ?_
 simp only [o_pure, o_eff, o_nil, POp.ev, Opd.ev, EOp.ev, gv, setD, List.set, xsj, xel, binV, load1V, ne_eq, xnt, if_false, w0', w1', w2', w0c', w1c', w2c', f0, f1, f2, f3, f4, hmk]
 have hA : VecI (H1.alloc (List.replicate N (.int .i64 0))) H1.next (.slice (some ⟨H1.next, 0, some 0⟩) N N) (List.replicate N 0) := by
   show Vec _ _ _ (List.replicate N (0 : Int)).length 1 ((List.replicate N (0 : Int)).map vi)
   rw [List.length_replicate, List.map_replicate]
   exact Vec.lit (by simp)
 have hx2 := Ext.alloc H1 (List.replicate N (.int .i64 0))
 have hbl : H1.next < (H1.alloc (List.replicate N (.int .i64 0))).next := Nat.lt_succ_self _
 generalize H1.alloc (List.replicate N (.int .i64 0)) = H2 at hA hx2 hbl ⊢
 generalize (Value.slice (some ⟨H1.next, 0, some 0⟩) N N) = a at hA ⊢
 generalize H1.next = bo at hA hbl hn1' hc1 ⊢
 have hx12 := hx1.trans hx2
 have hnx2 := hx2.next
 have hdd2 := Vec.ext hdd hx2
 clear hdd hmk w0 w1 w2 w0c w1c w2c w0c' w1c' w2c'
 have hb3 : ∀ G : AHeap, bsliceH G 3 [.int .i64 0, .int .i64 0, .int .i64 0] [(0, 1, .int .i64 0), (1, 1, .int .i64 0), (2, 1, .int .i64 0)] = some (.slice (some ⟨G.next, 0, some 0⟩) 3 3, G.alloc [.int .i64 0, .int .i64 0, .int .i64 0]) := fun _ => rfl
 refine s_reg ?_
 simp only [o_pure, o_eff, o_nil, POp.ev, Opd.ev, EOp.ev, gv, setD, List.set, List.map, xsj, xel, hb3]
 have hv3 : VecI (H2.alloc [.int .i64 0, .int .i64 0, .int .i64 0]) H2.next (.slice (some ⟨H2.next, 0, some 0⟩) 3 3) [0, 0, 0] := Vec.lit rfl
 have hx3 := Ext.alloc H2 [Value.int .i64 0, .int .i64 0, .int .i64 0]
 have hlt3 : H2.next < (H2.alloc [Value.int .i64 0, .int .i64 0, .int .i64 0]).next := Nat.lt_succ_self _
 generalize H2.alloc [Value.int .i64 0, .int .i64 0, .int .i64 0] = H3 at hv3 hx3 hlt3 ⊢
 have hv4 : VecI (H3.alloc [.int .i64 0, .int .i64 0, .int .i64 0]) H3.next (.slice (some ⟨H3.next, 0, some 0⟩) 3 3) [0, 0, 0] := Vec.lit rfl
 have hx4 := Ext.alloc H3 [Value.int .i64 0, .int .i64 0, .int .i64 0]
 have hlt4 : H3.next < (H3.alloc [Value.int .i64 0, .int .i64 0, .int .i64 0]).next := Nat.lt_succ_self _
 generalize H3.alloc [Value.int .i64 0, .int .i64 0, .int .i64 0] = H4 at hv4 hx4 hlt4 ⊢
 generalize (Value.slice (some ⟨H2.next, 0, some 0⟩) 3 3) = lv at hv3 ⊢
 generalize (Value.slice (some ⟨H3.next, 0, some 0⟩) 3 3) = mv at hv4 ⊢
 generalize hlb : H2.next = lb at *
 generalize hmb : H3.next = mb at *
 replace hv3 := Vec.ext hv3 hx4
 have hxa := (hx12.trans hx3).trans hx4
 have hdd4 := Vec.ext (Vec.ext hdd2 hx3) hx4
 have hA4 := Vec.ext (Vec.ext hA hx3) hx4
 clear hdd2 hA
 have hL1 := (show SlI H l L from hL).lenV
 refine s_cut (fun e' H' => ∃ y10 y11 y12 y13 y14 y15 y16 y17 y18 y19 y20 : Value, VecI H' c dd [(d0 : Int), (d1 : Int), (d2 : Int)] ∧ VecI H' bo a (List.replicate N 0) ∧ VecI H' lb lv [L.getD 0 0, L.getD 1 0, L.getD 2 0] ∧ VecI H' mb mv [U.getD 0 0, U.getD 1 0, U.getD 2 0] ∧ Ext H H' ∧ bo < H'.next ∧ mb < H'.next ∧
   e' = [s, l, h, .int .i64 k, .slice none 0 0, .slice none 0 0, dd, a, lv, mv, y10, y11, y12, y13, y14, y15, y16, y17, y18, y19, y20]) ?_ ?_
 · refine s_reg ?_
   simp only [o_pure, o_nil, POp.ev, Opd.ev, gv, setD, List.set, xsj, xel, hL1]
   refine s_block1 ?_
   refine s_loop1 (fun j e' H' => ∃ (i : Nat) (y10 y11 y12 y13 y14 y15 y18 y19 y20 : Value), i + j = L.length ∧ VecI H' c dd [(d0 : Int), (d1 : Int), (d2 : Int)] ∧ VecI H' bo a (List.replicate N 0) ∧ VecI H' lb lv [if 0 < i then L.getD 0 0 else 0, if 1 < i then L.getD 1 0 else 0, if 2 < i then L.getD 2 0 else 0] ∧ VecI H' mb mv [if 0 < i then U.getD 0 0 else 0, if 1 < i then U.getD 1 0 else 0, if 2 < i then U.getD 2 0 else 0] ∧ Ext H H' ∧ bo < H'.next ∧ mb < H'.next ∧
     e' = [s, l, h, .int .i64 k, .slice none 0 0, .slice none 0 0, dd, a, lv, mv, y10, y11, y12, y13, y14, y15, .int .i64 L.length, .int .i64 i, y18, y19, y20]) L.length ⟨0, _, _, _, _, _, _, _, _, _, by omega, hdd4, hA4, hv3, hv4, hxa, by have := hx3.next; have := hx4.next; omega, hlt4, rfl⟩ ?_
   clear hdd4 hA4 hv3 hv4 hxa
   rintro j e' H5 ⟨i, y10, y11, y12, y13, y14, y15, y18, y19, y20, hij, g1, g2, g3, g4, g5, g6, g7, rfl⟩
   have hn5 := g5.next
   refine s_test ?_
   simp only [o_pure, o_nil, POp.ev, Opd.ev, gv, setD, xsj, xel, binV, ne_eq, xnt, if_false]
   refine Test.split (fun hlt => ?_) (fun hlt => ?_)
   · have hlt' : i < L.length := by simpa using hlt
     obtain ⟨p1, o1, u1, _, u2⟩ := SlI.get (show SlI H5 l L from hL.keep (Keep.of_ext g5 (Nat.le_refl _)) (Nat.le_refl _)) hlt'
     obtain ⟨q1, _⟩ := VecI.at g3 (i := i) (by simp; omega)
     obtain ⟨cs, hst, g3'⟩ := VecI.put (lim := lim) g3 (by omega) (i := i) (by simp; omega) L[i]
     have hch : Chg lb H5 (H5.put lb cs) := Chg.put _ _ _
     have g5' := Chg.ext g5 hch (by omega)
     obtain ⟨p2, o2, w1, _, w2⟩ := SlI.get (show SlI (H5.put lb cs) h U from hU.keep (Keep.of_ext g5' (Nat.le_refl _)) (Nat.le_refl _)) (i := i) (by omega)
     obtain ⟨q2, _⟩ := VecI.at (Vec.chg g4 hch (by omega)) (i := i) (by simp; omega)
     obtain ⟨cs2, hst2, g4'⟩ := VecI.put (lim := lim) (Vec.chg g4 hch (by omega)) (by omega) (i := i) (by simp; omega) (U[i]'(by omega))
     have hch2 : Chg mb (H5.put lb cs) ((H5.put lb cs).put mb cs2) := Chg.put _ _ _
     refine s_skip1 ?_
     simp +decide only [pqn]
     refine s_block1 ?_
     refine s_reg ?_
     simp only [o_pure, o_nil, POp.ev, Opd.ev, gv, setD, List.set, xsj, xel]
     refine s_reg ?_
     simp only [o_pure, o_eff, o_nil, POp.ev, Opd.ev, EOp.ev, gv, setD, xsj, xel, load1V, u1, u2, q1, hst]
     refine s_reg1 ?_
     simp only [o_pure, o_eff, o_nil, POp.ev, Opd.ev, EOp.ev, gv, setD, xsj, xel, load1V, w1, w2, q2, hst2]
     simp +decide only [pqn, pbn]
     refine s_reg1 ?_
     simp only [o_pure, o_nil, POp.ev, Opd.ev, gv, setD, List.set, xsj, xel, binV, ne_eq, xnt, if_false, add1 (i := i) (by omega)]
     simp +decide only [pqn]
     refine Round.mk (j - 1) (by omega) ⟨i + 1, _, _, _, _, _, _, _, _, _, by omega, Vec.chg (Vec.chg g1 hch (by omega)) hch2 (by omega), Vec.chg (Vec.chg g2 hch (by omega)) hch2 (by omega), Vec.chg ?_ hch2 (by omega), ?_, Chg.ext g5' hch2 (by omega), by have := hch.next; have := hch2.next; omega, by have := hch.next; have := hch2.next; omega, rfl⟩
     · show VecI _ lb lv [if 0 < i + 1 then L.getD 0 0 else 0, if 1 < i + 1 then L.getD 1 0 else 0, if 2 < i + 1 then L.getD 2 0 else 0]
       have e : L.getD i 0 = L[i] := by simp [hlt']
       rw [← e] at g3'
       have hi3 : i = 0 ∨ i = 1 ∨ i = 2 := by omega
       rcases hi3 with rfl | rfl | rfl <;> simpa using g3'
     · have e : U.getD i 0 = U[i]'(by omega) := by simp [show i < U.length by omega]
       rw [← e] at g4'
       have hi3 : i = 0 ∨ i = 1 ∨ i = 2 := by omega
       rcases hi3 with rfl | rfl | rfl <;> simpa using g4'
   · have hge : i = L.length := by simp at hlt; omega
     subst hge
     refine s_exit1 ?_
     simp +decide only [pqn, pqe, pbe, reduceIte]
     have hz : ∀ (M : List Int), M.length = L.length → ∀ k, (if k < L.length then M.getD k 0 else 0) = M.getD k 0 := by
       intro M hM k
       split
       · rfl
       · rename_i hk
         simp [show M.length ≤ k by omega]
     rw [hz L rfl, hz L rfl, hz L rfl] at g3
     rw [hz U hn2, hz U hn2, hz U hn2] at g4
     exact ⟨_, _, _, _, _, _, _, _, _, _, _, g1, g2, g3, g4, g5, g6, g7, rfl⟩
 · rintro e' H5 ⟨y10, y11, y12, y13, y14, y15, y16, y17, y18, y19, y20, g1, g2, g3, g4, g5, g6, g7, rfl⟩
   have hG0 : IsG d0 d1 d2 (List.replicate N 0) (gridF (([] : List Tm).map (tmC k (degA (-1) p))) ⟨L.getD 0 0, U.getD 0 0, d0⟩ ⟨L.getD 1 0, U.getD 1 0, d1⟩ ⟨L.getD 2 0, U.getD 2 0, d2⟩) := ⟨by rw [List.length_replicate, hN], fun x y z _ _ _ => by rw [getD_replicate]; rfl⟩
   refine s_assoc (s_reg ?_)
   simp only [o_pure, o_nil, POp.ev, Opd.ev, gv, setD, List.set, xsj, xel, hs.lenV]
   refine s_cut (fun e' H' => ∃ (A : List Int) (y10 y11 y12 y13 y14 y15 y16 y17 y18 y19 y20 : Value), IsG d0 d1 d2 A (gridF (p.map (tmC k (degA (-1) p))) ⟨L.getD 0 0, U.getD 0 0, d0⟩ ⟨L.getD 1 0, U.getD 1 0, d1⟩ ⟨L.getD 2 0, U.getD 2 0, d2⟩) ∧ VecI H' c dd [(d0 : Int), (d1 : Int), (d2 : Int)] ∧ VecI H' bo a A ∧ Ext H H' ∧ bo < H'.next ∧
     e' = [s, l, h, .int .i64 k, .slice none 0 0, .slice none 0 0, dd, a, lv, mv, y10, y11, y12, y13, y14, y15, y16, y17, y18, y19, y20]) ?_ ?_
   · refine s_block1 ?_
     refine s_loop1 (fun j e' H' => ∃ (i : Nat) (A : List Int) (y10 y11 y12 y13 y14 y15 y16 y17 : Value), i + j = p.length ∧ IsG d0 d1 d2 A (gridF ((p.take i).map (tmC k (degA (-1) p))) ⟨L.getD 0 0, U.getD 0 0, d0⟩ ⟨L.getD 1 0, U.getD 1 0, d1⟩ ⟨L.getD 2 0, U.getD 2 0, d2⟩) ∧ VecI H' c dd [(d0 : Int), (d1 : Int), (d2 : Int)] ∧ VecI H' bo a A ∧ VecI H' lb lv [L.getD 0 0, L.getD 1 0, L.getD 2 0] ∧ VecI H' mb mv [U.getD 0 0, U.getD 1 0, U.getD 2 0] ∧ Ext H H' ∧ bo < H'.next ∧ mb < H'.next ∧
       e' = [s, l, h, .int .i64 k, .slice none 0 0, .slice none 0 0, dd, a, lv, mv, y10, y11, y12, y13, y14, y15, y16, y17, s, .int .i64 p.length, .int .i64 i]) p.length ⟨0, _, _, _, _, _, _, _, _, _, by omega, hG0, g1, g2, g3, g4, g5, g6, g7, rfl⟩ ?_
     clear g1 g2 g3 g4 g5 g6 g7 hG0
     rintro j e' H6 ⟨i, A, y10, y11, y12, y13, y14, y15, y16, y17, hij, hG, g1, g2, g3, g4, g5, g6, g7, rfl⟩
     have hn6 := g5.next
     refine s_test ?_
     simp only [o_pure, o_nil, POp.ev, Opd.ev, gv, setD, xsj, xel, binV, ne_eq, xnt, if_false]
     refine Test.split (fun hlt => ?_) (fun hlt => ?_)
     · have hlt' : i < p.length := by simpa using hlt
       obtain ⟨b1', o1, h1', hat⟩ := (hs.ext g5).at hlt'
       refine s_skip1 ?_
       simp +decide only [pqn]
       refine s_block1 ?_
       refine s_reg ?_
       simp only [o_pure, o_eff, o_nil, POp.ev, Opd.ev, EOp.ev, gv, setD, List.set, xsj, xel, h1', hat.all, store4_new (lim := lim) (H := H6) (by omega)]
       have hB := BoxT.mk' H6 p[i]
       generalize H6.alloc (tc p[i]) = H7 at hB ⊢
       generalize H6.next = q at hB hn6 g6 g7 ⊢
       refine s_reg ?_
       simp only [o_pure, o_callN, POp.ev, Opd.ev, gv, setD, List.map, xsj, xel, load1V, fadV, Nat.zero_add, hB.c0, hB.c1, hB.c2, hB.c3]
       obtain ⟨q1, q2, q3, q4, q5, q6⟩ := hp _ (List.getElem_mem hlt')
       have hdi := hdeg _ (List.getElem_mem hlt')
       obtain ⟨n, hnn⟩ : ∃ n : Nat, degA (-1) p - p[i].x - p[i].y - p[i].z = n := ⟨(degA (-1) p - p[i].x - p[i].y - p[i].z).toNat, by omega⟩
       have k1 : IntKind.i64.wrap (degA (-1) p - p[i].x) = degA (-1) p - p[i].x := wr_id (by omega) (by omega)
       have k2 : IntKind.i64.wrap (degA (-1) p - p[i].x - p[i].y) = degA (-1) p - p[i].x - p[i].y := wr_id (by omega) (by omega)
       have k3 : IntKind.i64.wrap (degA (-1) p - p[i].x - p[i].y - p[i].z) = n := by rw [hnn]; exact wr_nat (by omega)
       have k4 : IntKind.i64.wrap (p[i].c * wr (wr (2 ^ k) ^ n)) = wr (tmC k (degA (-1) p) p[i]).1 := by
         rw [wr_pow]
         unfold tmC
         rw [hnn]
         exact wr_mul_r _ _
       refine (dyPower_ok _ k H7 (by omega)).eq ?_
       simp only [o_cont, o_callN, Opd.ev, gv, setD, List.map]
       refine (poDegree_ok _ s p H7 (Nat.le_refl _) (hs.ext (g5.trans hB.ext)) hn hp).mono ?_
       rintro _ H8 ⟨rfl, hx8⟩
       simp only [o_cont, o_pure, o_callN, POp.ev, Opd.ev, gv, setD, List.map, xsj, xel, binV, ne_eq, xnt, if_false, k1, k2, k3]
       refine (power_ok _ _ n H8 (by omega)).eq ?_
       simp only [o_cont, o_pure, o_nil, POp.ev, Opd.ev, gv, setD, List.set, xsj, xel, binV, ne_eq, xnt, if_false, k4]
       replace hB := hB.mono hx8
       have hx68 := hB.ext
       have hn8 := hx68.next
       replace g1 := Vec.ext g1 hx68
       replace g2 := Vec.ext g2 hx68
       replace g3 := Vec.ext g3 hx68
       replace g4 := Vec.ext g4 hx68
       have g5o := g5
       replace g5 := g5.trans hx68
       have hBH : BoxT H H8 q p[i] := hB.low g5o
       have g6' : bo < H8.next := by have := hB.lt; omega
       have g7' : mb < H8.next := by have := hB.lt; omega
       have hqb : q ≠ bo := by omega
       have hst : GrSt H c bo lb mb q dd a lv mv d0 d1 d2 L U p[i] (gridF ((p.take i).map (tmC k (degA (-1) p))) ⟨L.getD 0 0, U.getD 0 0, d0⟩ ⟨L.getD 1 0, U.getD 1 0, d1⟩ ⟨L.getD 2 0, U.getD 2 0, d2⟩) A H8 := ⟨hG, g1, g2, g3, g4, hBH, g6', g7'⟩
       have hstep : (p.take (i + 1)).map (tmC k (degA (-1) p)) = (p.take i).map (tmC k (degA (-1) p)) ++ [tmC k (degA (-1) p) p[i]] := by
         rw [List.take_succ_eq_append_getElem hlt', List.map_append]
         rfl
       have hgs : ∀ x y z, gridF ((p.take (i + 1)).map (tmC k (degA (-1) p))) ⟨L.getD 0 0, U.getD 0 0, d0⟩ ⟨L.getD 1 0, U.getD 1 0, d1⟩ ⟨L.getD 2 0, U.getD 2 0, d2⟩ x y z = gridF ((p.take i).map (tmC k (degA (-1) p))) ⟨L.getD 0 0, U.getD 0 0, d0⟩ ⟨L.getD 1 0, U.getD 1 0, d1⟩ ⟨L.getD 2 0, U.getD 2 0, d2⟩ x y z + (tmC k (degA (-1) p) p[i]).1 * prt (L.getD 0 0) (U.getD 0 0) p[i].x.toNat x * prt (L.getD 1 0) (U.getD 1 0) p[i].y.toNat y * prt (L.getD 2 0) (U.getD 2 0) p[i].z.toNat z := by
         intro x y z
         rw [hstep]
         unfold gridF
         rw [lsum_append]
         simp [lsum, tmC]
       refine s_reg ?_
       simp only [o_pure, o_nil, POp.ev, Opd.ev, setD, List.set, xsj, xel]
       clear g1 g2 g3 g4 g5 g6 g7 hB hBH hG
       generalize hct : (tmC k (degA (-1) p) p[i]).1 = ct at *
       generalize hf0 : gridF ((p.take i).map (tmC k (degA (-1) p))) ⟨L.getD 0 0, U.getD 0 0, d0⟩ ⟨L.getD 1 0, U.getD 1 0, d1⟩ ⟨L.getD 2 0, U.getD 2 0, d2⟩ = f0 at *
       generalize hf1 : gridF ((p.take (i + 1)).map (tmC k (degA (-1) p))) ⟨L.getD 0 0, U.getD 0 0, d0⟩ ⟨L.getD 1 0, U.getD 1 0, d1⟩ ⟨L.getD 2 0, U.getD 2 0, d2⟩ = f1 at *
       obtain ⟨ex, hex⟩ : ∃ ex : Nat, p[i].x = ex := ⟨p[i].x.toNat, by omega⟩
       obtain ⟨ey, hey⟩ : ∃ ey : Nat, p[i].y = ey := ⟨p[i].y.toNat, by omega⟩
       obtain ⟨ez, hez⟩ : ∃ ez : Nat, p[i].z = ez := ⟨p[i].z.toNat, by omega⟩
       rw [hex, hey, hez] at hgs
       simp only [Int.toNat_natCast] at hgs
       have m0 : (if (ex : Int) < (d0 : Int) then (ex : Int) else (d0 : Int)) = ((min ex d0 : Nat) : Int) := by split <;> omega
       have m1 : (if (ey : Int) < (d1 : Int) then (ey : Int) else (d1 : Int)) = ((min ey d1 : Nat) : Int) := by split <;> omega
       have m2 : (if (ez : Int) < (d2 : Int) then (ez : Int) else (d2 : Int)) = ((min ez d2 : Nat) : Int) := by split <;> omega
       generalize hT : (fun x y z => ct * prt (L.getD 0 0) (U.getD 0 0) ex x * prt (L.getD 1 0) (U.getD 1 0) ey y * prt (L.getD 2 0) (U.getD 2 0) ez z) = T
       have hTv : ∀ x y z, T x y z = ct * prt (L.getD 0 0) (U.getD 0 0) ex x * prt (L.getD 1 0) (U.getD 1 0) ey y * prt (L.getD 2 0) (U.getD 2 0) ez z := by intro x y z; rw [← hT]
       have hT0 : ∀ x y z, x ≤ d0 → y ≤ d1 → z ≤ d2 → (ex < x ∨ ey < y ∨ ez < z) → T x y z = 0 := by
         intro x y z hx hy hz hc
         rw [hTv]
         rcases hc with hc | hc | hc
         · rw [prt_gt _ _ (by omega) (by omega) hc]; simp
         · rw [prt_gt _ _ (by omega) (by omega) hc]; simp
         · rw [prt_gt _ _ (by omega) (by omega) hc]; simp
       refine s_block1 ?_
       refine s_loop1 (fun j e' H' => ∃ (x : Nat) (A : List Int) (y14 y15 : Value), x + j = min ex d0 + 1 ∧ GrSt H c bo lb mb q dd a lv mv d0 d1 d2 L U p[i] (fun x' y' z' => f0 x' y' z' + if x' < x then T x' y' z' else 0) A H' ∧
         e' = [s, l, h, .int .i64 k, .slice none 0 0, .slice none 0 0, dd, a, lv, mv, y10, .pointer (some ⟨q, 0, none⟩), .int .i64 (wr ct), .int .i64 x, y14, y15, y16, y17, s, .int .i64 p.length, .int .i64 i]) (min ex d0 + 1) ⟨0, A, _, _, by omega, ⟨hst.1.congr fun x y z _ _ _ => by simp, hst.2⟩, rfl⟩ ?_
       clear hst
       rintro j1 e' HX ⟨x, A, y14, y15, hxj, hst, rfl⟩
       obtain ⟨hG, g1, g2, g3, g4, hB, g6, g7⟩ := hst
       obtain ⟨w1, w2⟩ := VecI.at g1 (i := 0) (by simp)
       have w1' : iadV 1 dd (.int .i64 0) = some (.pointer (some ⟨c, 0, none⟩)) := w1
       have w2' : HX.cell c 0 = some (.int .i64 d0) := w2
       refine s_test ?_
       simp only [o_pure, o_callF, POp.ev, Opd.ev, gv, setD, List.map, xsj, xel, load1V, fadV, Nat.zero_add, hB.c1, w1', w2', hex]
       refine (l1Least_ok _ _ _ _).eq ?_
       simp only [o_cont, o_pure, o_nil, POp.ev, Opd.ev, gv, setD, xsj, xel, binV, ne_eq, xnt, if_false, m0]
       refine Test.split (fun hlt => ?_) (fun hlt => ?_)
       · have hx0 : x ≤ min ex d0 := by simp at hlt; omega
         refine s_skip1 ?_
         simp +decide only [pqn]
         refine s_block1 ?_
         refine s_reg ?_
         simp only [o_pure, o_nil, POp.ev, Opd.ev, setD, List.set, xsj, xel]
         refine s_block1 ?_
         refine s_loop1 (fun j e' H' => ∃ (y : Nat) (A : List Int) (y15 : Value), y + j = min ey d1 + 1 ∧ GrSt H c bo lb mb q dd a lv mv d0 d1 d2 L U p[i] (fun x' y' z' => f0 x' y' z' + if x' < x ∨ (x' = x ∧ y' < y) then T x' y' z' else 0) A H' ∧
           e' = [s, l, h, .int .i64 k, .slice none 0 0, .slice none 0 0, dd, a, lv, mv, y10, .pointer (some ⟨q, 0, none⟩), .int .i64 (wr ct), .int .i64 x, .int .i64 y, y15, y16, y17, s, .int .i64 p.length, .int .i64 i]) (min ey d1 + 1) ⟨0, A, _, by omega, ⟨hG.congr fun x y z _ _ _ => by simp, g1, g2, g3, g4, hB, g6, g7⟩, rfl⟩ ?_
         clear hG g1 g2 g3 g4 hB g6 g7 w1 w2 w1' w2' hlt
         rintro j2 e' HY ⟨y, A, y15, hyj, ⟨hG, g1, g2, g3, g4, hB, g6, g7⟩, rfl⟩
         obtain ⟨w1, w2⟩ := VecI.at g1 (i := 1) (by simp)
         have w1' : iadV 1 dd (.int .i64 1) = some (.pointer (some ⟨c, 1, none⟩)) := w1
         have w2' : HY.cell c 1 = some (.int .i64 d1) := w2
         refine s_test ?_
         simp only [o_pure, o_callF, POp.ev, Opd.ev, gv, setD, List.map, xsj, xel, load1V, fadV, Nat.zero_add, hB.c2, w1', w2', hey]
         refine (l1Least_ok _ _ _ _).eq ?_
         simp only [o_cont, o_pure, o_nil, POp.ev, Opd.ev, gv, setD, xsj, xel, binV, ne_eq, xnt, if_false, m1]
         refine Test.split (fun hlt => ?_) (fun hlt => ?_)
         · have hy0 : y ≤ min ey d1 := by simp at hlt; omega
           refine s_skip1 ?_
           simp +decide only [pqn]
           refine s_block1 ?_
           refine s_reg ?_
           simp only [o_pure, o_nil, POp.ev, Opd.ev, setD, List.set, xsj, xel]
           refine s_block1 ?_
           refine s_loop1 (fun j e' H' => ∃ (z : Nat) (A : List Int), z + j = min ez d2 + 1 ∧ GrSt H c bo lb mb q dd a lv mv d0 d1 d2 L U p[i] (fun x' y' z' => f0 x' y' z' + if x' < x ∨ (x' = x ∧ (y' < y ∨ (y' = y ∧ z' < z))) then T x' y' z' else 0) A H' ∧
             e' = [s, l, h, .int .i64 k, .slice none 0 0, .slice none 0 0, dd, a, lv, mv, y10, .pointer (some ⟨q, 0, none⟩), .int .i64 (wr ct), .int .i64 x, .int .i64 y, .int .i64 z, y16, y17, s, .int .i64 p.length, .int .i64 i]) (min ez d2 + 1) ⟨0, A, by omega, ⟨hG.congr fun x y z _ _ _ => by simp, g1, g2, g3, g4, hB, g6, g7⟩, rfl⟩ ?_
           clear hG g1 g2 g3 g4 hB g6 g7 w1 w2 w1' w2' hlt
           rintro j3 e' HZ ⟨z, A, hzj, ⟨hG, g1, g2, g3, g4, hB, g6, g7⟩, rfl⟩
           obtain ⟨w1, w2⟩ := VecI.at g1 (i := 2) (by simp)
           have w1' : iadV 1 dd (.int .i64 2) = some (.pointer (some ⟨c, 2, none⟩)) := w1
           have w2' : HZ.cell c 2 = some (.int .i64 d2) := w2
           refine s_test ?_
           simp only [o_pure, o_callF, POp.ev, Opd.ev, gv, setD, List.map, xsj, xel, load1V, fadV, Nat.zero_add, hB.c3, w1', w2', hez]
           refine (l1Least_ok _ _ _ _).eq ?_
           simp only [o_cont, o_pure, o_nil, POp.ev, Opd.ev, gv, setD, xsj, xel, binV, ne_eq, xnt, if_false, m2]
           refine Test.split (fun hlt => ?_) (fun hlt => ?_)
           · have hz0 : z ≤ min ez d2 := by simp at hlt; omega
             obtain ⟨l0, l0c⟩ := VecI.at g3 (i := 0) (by simp)
             obtain ⟨l1, l1c⟩ := VecI.at g3 (i := 1) (by simp)
             obtain ⟨l2, l2c⟩ := VecI.at g3 (i := 2) (by simp)
             obtain ⟨n0, n0c⟩ := VecI.at g4 (i := 0) (by simp)
             obtain ⟨n1, n1c⟩ := VecI.at g4 (i := 1) (by simp)
             obtain ⟨n2, n2c⟩ := VecI.at g4 (i := 2) (by simp)
             have l0' : iadV 1 lv (.int .i64 0) = some (.pointer (some ⟨lb, 0, none⟩)) := l0
             have l1' : iadV 1 lv (.int .i64 1) = some (.pointer (some ⟨lb, 1, none⟩)) := l1
             have l2' : iadV 1 lv (.int .i64 2) = some (.pointer (some ⟨lb, 2, none⟩)) := l2
             have n0' : iadV 1 mv (.int .i64 0) = some (.pointer (some ⟨mb, 0, none⟩)) := n0
             have n1' : iadV 1 mv (.int .i64 1) = some (.pointer (some ⟨mb, 1, none⟩)) := n1
             have n2' : iadV 1 mv (.int .i64 2) = some (.pointer (some ⟨mb, 2, none⟩)) := n2
             have l0c' : HZ.cell lb 0 = some (.int .i64 (L.getD 0 0)) := l0c
             have l1c' : HZ.cell lb 1 = some (.int .i64 (L.getD 1 0)) := l1c
             have l2c' : HZ.cell lb 2 = some (.int .i64 (L.getD 2 0)) := l2c
             have n0c' : HZ.cell mb 0 = some (.int .i64 (U.getD 0 0)) := n0c
             have n1c' : HZ.cell mb 1 = some (.int .i64 (U.getD 1 0)) := n1c
             have n2c' : HZ.cell mb 2 = some (.int .i64 (U.getD 2 0)) := n2c
             have hgl : gp d1 d2 x y z < A.length := by rw [hG.1]; exact gp_lt (by omega) (by omega) (by omega)
             obtain ⟨v1, v2⟩ := VecI.at g2 hgl
             obtain ⟨cs, hst, g2'⟩ := VecI.put (lim := lim) g2 (by omega) hgl (wr (A.getD (gp d1 d2 x y z) 0 + wr (T x y z)))
             have c1 : IntKind.i64.wrap (wr ct * wr (prt (L.getD 0 0) (U.getD 0 0) ex x)) = wr (ct * prt (L.getD 0 0) (U.getD 0 0) ex x) := wr_mul _ _
             have c2 : IntKind.i64.wrap (wr (ct * prt (L.getD 0 0) (U.getD 0 0) ex x) * wr (prt (L.getD 1 0) (U.getD 1 0) ey y)) = wr (ct * prt (L.getD 0 0) (U.getD 0 0) ex x * prt (L.getD 1 0) (U.getD 1 0) ey y) := wr_mul _ _
             have c3 : IntKind.i64.wrap (wr (ct * prt (L.getD 0 0) (U.getD 0 0) ex x * prt (L.getD 1 0) (U.getD 1 0) ey y) * wr (prt (L.getD 2 0) (U.getD 2 0) ez z)) = wr (T x y z) := by rw [hTv]; exact wr_mul _ _
             have c4 : IntKind.i64.wrap (A.getD (gp d1 d2 x y z) 0 + wr (T x y z)) = wr (A.getD (gp d1 d2 x y z) 0 + wr (T x y z)) := rfl
             refine s_skip1 ?_
             simp +decide only [pqn]
             refine s_block1 ?_
             refine s_reg1 ?_
             simp only [o_pure, o_callN, POp.ev, Opd.ev, gv, setD, List.map, xsj, xel, load1V, fadV, Nat.zero_add, hB.c1, hB.c2, hB.c3, l0', l1', l2', n0', n1', n2', l0c', l1c', l2c', n0c', n1c', n2c', hex, hey, hez]
             refine (at_ok _ dd d0 d1 d2 x y z HZ (Vec.sl g1) (by omega) (by omega) (by omega) (by omega) (by omega)).eq ?_
             rw [show (x * (d1 + 1) + y) * (d2 + 1) + z = gp d1 d2 x y z from rfl]
             simp only [o_cont, o_pure, o_callN, POp.ev, Opd.ev, gv, setD, List.map, xsj, xel, load1V, v1, v2]
             refine (part_ok _ _ _ ex x HZ (by omega) (by omega)).eq ?_
             simp only [o_cont, o_pure, o_callN, POp.ev, Opd.ev, gv, setD, List.map, xsj, xel, binV, ne_eq, xnt, if_false, c1]
             refine (part_ok _ _ _ ey y HZ (by omega) (by omega)).eq ?_
             simp only [o_cont, o_pure, o_callN, POp.ev, Opd.ev, gv, setD, List.map, xsj, xel, binV, ne_eq, xnt, if_false, c2]
             refine (part_ok _ _ _ ez z HZ (by omega) (by omega)).eq ?_
             simp only [o_cont, o_pure, o_eff, o_nil, POp.ev, Opd.ev, EOp.ev, gv, setD, xsj, xel, binV, ne_eq, xnt, if_false, c3, c4, v1, hst]
             simp +decide only [pqn, pbn]
             refine s_reg1 ?_
             simp only [o_pure, o_nil, POp.ev, Opd.ev, gv, setD, List.set, xsj, xel, binV, ne_eq, xnt, if_false, add1 (i := z) (by omega)]
             simp +decide only [pqn]
             have hch : Chg bo HZ (HZ.put bo cs) := Chg.put _ _ _
             have hnz := hch.next
             refine Round.mk (j3 - 1) (by omega) ⟨z + 1, _, by omega, ⟨(hG.add (by omega) (by omega) (by omega) (T x y z)).congr fun x' y' z' hx hy hz => ?_, Vec.chg g1 hch (by omega), g2', Vec.chg g3 hch (by omega), Vec.chg g4 hch (by omega), hB.chg hch (by omega) hqb, by omega, by omega⟩, rfl⟩
             by_cases he : x' = x ∧ y' = y ∧ z' = z
             · obtain ⟨rfl, rfl, rfl⟩ := he
               simp
             · rw [if_neg he, Int.add_zero]
               by_cases hc : x' < x ∨ (x' = x ∧ (y' < y ∨ (y' = y ∧ z' < z)))
               · rw [if_pos hc, if_pos (by omega)]
               · rw [if_neg hc, if_neg (by omega)]
           · have hge : z = min ez d2 + 1 := by simp at hlt; omega
             subst hge
             refine s_exit1 ?_
             simp +decide only [pqn, pqe, pbn, pbe, reduceIte]
             refine s_reg1 ?_
             simp only [o_pure, o_nil, POp.ev, Opd.ev, gv, setD, List.set, xsj, xel, binV, ne_eq, xnt, if_false, add1 (i := y) (by omega)]
             simp +decide only [pqn]
             refine Round.mk (j2 - 1) (by omega) ⟨y + 1, A, _, by omega, ⟨hG.congr fun x' y' z' hx hy hz => ?_, g1, g2, g3, g4, hB, g6, g7⟩, rfl⟩
             by_cases hc : x' < x ∨ (x' = x ∧ (y' < y ∨ (y' = y ∧ z' < min ez d2 + 1)))
             · rw [if_pos hc, if_pos (by omega)]
             · rw [if_neg hc]
               by_cases hc2 : x' < x ∨ (x' = x ∧ y' < y + 1)
               · rw [if_pos hc2, hT0 x' y' z' hx hy hz (.inr (.inr (by omega)))]
               · rw [if_neg hc2]
         · have hge : y = min ey d1 + 1 := by simp at hlt; omega
           subst hge
           refine s_exit1 ?_
           simp +decide only [pqn, pqe, pbn, pbe, reduceIte]
           refine s_reg1 ?_
           simp only [o_pure, o_nil, POp.ev, Opd.ev, gv, setD, List.set, xsj, xel, binV, ne_eq, xnt, if_false, add1 (i := x) (by omega)]
           simp +decide only [pqn]
           refine Round.mk (j1 - 1) (by omega) ⟨x + 1, A, _, _, by omega, ⟨hG.congr fun x' y' z' hx hy hz => ?_, g1, g2, g3, g4, hB, g6, g7⟩, rfl⟩
           by_cases hc : x' < x ∨ (x' = x ∧ y' < min ey d1 + 1)
           · rw [if_pos hc, if_pos (by omega)]
           · rw [if_neg hc]
             by_cases hc2 : x' < x + 1
             · rw [if_pos hc2, hT0 x' y' z' hx hy hz (.inr (.inl (by omega)))]
             · rw [if_neg hc2]
       · have hge : x = min ex d0 + 1 := by simp at hlt; omega
         subst hge
         refine s_exit1 ?_
         simp +decide only [pqn, pqe, pbn, pbe, reduceIte]
         refine s_reg1 ?_
         simp only [o_pure, o_nil, POp.ev, Opd.ev, gv, setD, List.set, xsj, xel, binV, ne_eq, xnt, if_false, add1 (i := i) (by omega)]
         simp +decide only [pqn]
         refine Round.mk (j - 1) (by omega) ⟨i + 1, A, _, _, _, _, _, _, _, _, by omega, hf1 ▸ hG.congr fun x' y' z' hx hy hz => ?_, g1, g2, g3, g4, hB.ext, g6, g7, rfl⟩
         rw [hgs, ← hTv]
         by_cases hc : x' < min ex d0 + 1
         · rw [if_pos hc]
         · rw [if_neg hc, hT0 x' y' z' hx hy hz (.inl (by omega))]
     · have hge : i = p.length := by simp at hlt; omega
       subst hge
       refine s_exit1 ?_
       simp +decide only [pqn, pqe, pbe, reduceIte]
       rw [List.take_length] at hG
       exact ⟨A, _, _, _, _, _, _, _, _, _, _, _, hG, g1, g2, g5, g6, rfl⟩
   · rintro e' H6 ⟨A, y10, y11, y12, y13, y14, y15, y16, y17, y18, y19, y20, hG, g1, g2, g5, g6, rfl⟩
     refine s_reg ?_
     simp only [o_pure, o_nil, POp.ev, Opd.ev, gv, setD, List.set, xsj, xel]
     refine s_ret1 ?_
     simp +decide only [pfr, resV, resOne, resL, gv, xsj, xel, Option.bind_some, xms]
     exact ⟨a, dd, bo, c, A, rfl, hn1', hc0, by omega, g6, hG, g2, g1, g5⟩
theorem sgn3_cases (n : Int) : (0 < n ∧ sgn3 n = 1) ∨ (n < 0 ∧ sgn3 n = -1) ∨ (n = 0 ∧ sgn3 n = 0) := by
 unfold sgn3
 rcases Int.lt_trichotomy n 0 with h | h | h
 · right; left; exact ⟨h, by rw [if_neg (by omega), if_pos h]⟩
 · right; right; exact ⟨h, by rw [if_neg (by omega), if_neg (by omega)]⟩
 · left; exact ⟨h, by rw [if_pos h]⟩
theorem sg_all {A : List Int} {σ : Int} (hne : A ≠ []) (h : ∀ v ∈ A, sgn3 v = σ) : sg A = σ := by
 obtain ⟨a, l, rfl⟩ : ∃ a l, A = a :: l := by cases A with
   | nil => exact absurd rfl hne
   | cons a l => exact ⟨a, l, rfl⟩
 have ha := h a (by simp)
 unfold sg
 by_cases h1 : ∀ v ∈ a :: l, 0 < v
 · rw [if_pos h1, ← ha]
   have := h1 a (by simp)
   rcases sgn3_cases a with h | h | h <;> omega
 · rw [if_neg h1]
   by_cases h2 : ∀ v ∈ a :: l, v < 0
   · rw [if_pos h2, ← ha]
     have := h2 a (by simp)
     rcases sgn3_cases a with h | h | h <;> omega
   · rw [if_neg h2]
     rcases sgn3_cases a with h3 | h3 | h3
     · exfalso
       refine h1 fun v hv => ?_
       have := h v hv
       rcases sgn3_cases v with h | h | h <;> omega
     · exfalso
       refine h2 fun v hv => ?_
       have := h v hv
       rcases sgn3_cases v with h | h | h <;> omega
     · omega
theorem sg_mixed {A : List Int} {u v : Int} (hu : u ∈ A) (hv : v ∈ A) (h : sgn3 u ≠ sgn3 v) : sg A = 0 := by
 unfold sg
 rw [if_neg, if_neg]
 · intro hn
   have h1 := hn u hu
   have h2 := hn v hv
   rcases sgn3_cases u with h3 | h3 | h3 <;> rcases sgn3_cases v with h4 | h4 | h4 <;> omega
 · intro hn
   have h1 := hn u hu
   have h2 := hn v hv
   rcases sgn3_cases u with h3 | h3 | h3 <;> rcases sgn3_cases v with h4 | h4 | h4 <;> omega
theorem beSign_ok (lim : Nat) (s : Value) (A : List Int) (H : AHeap) (hs : SlI H s A) (hne : A ≠ []) (hn : A.length ≤ 1000000) :
   ACalls Tryz.prog lim n_spec_beSign [s] H fun v H' => v = .int .i64 (sg A) ∧ H' = H := by
 refine is_spec_beSign.go rfl ?_
 unfold c_spec_beSign
 have hpos : 0 < A.length := List.length_pos_iff.2 hne
 obtain ⟨b0, o0, u0, _, u0c⟩ := hs.get hpos
 have u0' : iadV 1 s (.int .i64 0) = some (.pointer (some ⟨b0, o0, none⟩)) := u0
 refine s_reg ?_
 simp only [o_pure, o_nil, POp.ev, Opd.ev, env0, gu, setD, List.set, xsj, xel]
 refine s_reg ?_
 simp only [o_pure, o_callF, POp.ev, Opd.ev, gv, setD, List.map, xsj, xel, load1V, u0', u0c]
 refine (l1Sign_ok _ _ _).eq ?_
 simp only [o_cont, o_pure, o_nil, POp.ev, Opd.ev, gv, setD, List.set, xsj, xel]
 refine s_assoc (s_reg ?_)
 simp only [o_pure, o_nil, POp.ev, Opd.ev, gv, setD, List.set, xsj, xel, hs.lenV]
 refine s_block ?_
 refine s_loop1 (fun j e' H' => ∃ (i : Nat) (y : Value), i + j = A.length ∧ (∀ v ∈ A.take i, sgn3 v = sgn3 A[0]) ∧ H' = H ∧ e' = [s, .int .i64 0, .int .i64 (sgn3 A[0]), y, s, .int .i64 A.length, .int .i64 i]) A.length ⟨0, _, by omega, by simp, rfl, rfl⟩ ?_
 rintro j e' H' ⟨i, y, hij, hall, rfl, rfl⟩
 refine s_test ?_
 simp only [o_pure, o_nil, POp.ev, Opd.ev, gv, setD, xsj, xel, binV, ne_eq, xnt, if_false]
 refine Test.split (fun hlt => ?_) (fun hlt => ?_)
 · have hlt' : i < A.length := by simpa using hlt
   obtain ⟨b1, o1, w, _, wc⟩ := hs.get hlt'
   refine s_skip1 ?_
   simp +decide only [pqn]
   refine s_block1 ?_
   refine s_reg ?_
   simp only [o_pure, o_nil, POp.ev, Opd.ev, gv, setD, List.set, xsj, xel, load1V, w, wc]
   refine s_test1 ?_
   simp only [o_pure, o_callF, POp.ev, Opd.ev, gv, setD, List.map, xsj, xel]
   refine (l1Sign_ok _ _ _).eq ?_
   simp only [o_cont, o_pure, o_nil, POp.ev, Opd.ev, gv, setD, xsj, xel, binV, ne_eq, xnt, if_false]
   refine Test.split (fun hd => ?_) (fun hd => ?_)
   · have hd' : sgn3 A[i] ≠ sgn3 A[0] := by simpa using hd
     refine s_reg ?_
     simp only [o_pure, o_nil, POp.ev, Opd.ev, setD, List.set, xsj, xel]
     refine s_ret1 ?_
     simp +decide only [pqr, pbr, pfr, resV, resOne, gv, xsj, xel]
     rw [sg_mixed (List.getElem_mem hlt') (List.getElem_mem hpos) hd']
     exact ⟨rfl, trivial⟩
   · have hd' : sgn3 A[i] = sgn3 A[0] := by simpa using hd
     refine s_skip1 ?_
     simp +decide only [pqn, pbn]
     refine s_reg1 ?_
     simp only [o_pure, o_nil, POp.ev, Opd.ev, gv, setD, List.set, xsj, xel, binV, ne_eq, xnt, if_false, add1 (i := i) (by omega)]
     simp +decide only [pqn]
     refine Round.mk (j - 1) (by omega) ⟨i + 1, _, by omega, ?_, rfl, rfl⟩
     intro v hv
     rw [List.take_succ_eq_append_getElem hlt'] at hv
     rcases List.mem_append.1 hv with h | h
     · exact hall v h
     · rw [List.mem_singleton.1 h]; exact hd'
 · have hge : i = A.length := by simp at hlt; omega
   subst hge
   rw [List.take_length] at hall
   refine s_exit1 ?_
   simp +decide only [pqn, pqe, pbe, reduceIte]
   refine s_reg ?_
   simp only [o_pure, o_nil, POp.ev, Opd.ev, gv, setD, List.set, xsj, xel]
   refine s_ret1 ?_
   simp +decide only [pfr, resV, resOne, gv, xsj, xel]
   rw [sg_all hne hall]
   exact ⟨rfl, trivial⟩
theorem gp_surj {d0 d1 d2 n : Nat} (h : n < (d0 + 1) * (d1 + 1) * (d2 + 1)) : ∃ x y z, x ≤ d0 ∧ y ≤ d1 ∧ z ≤ d2 ∧ gp d1 d2 x y z = n := by
 have h1 : n / (d2 + 1) < (d0 + 1) * (d1 + 1) := Nat.div_lt_of_lt_mul (by rw [Nat.mul_comm]; exact h)
 have h2 : n / (d2 + 1) / (d1 + 1) < d0 + 1 := Nat.div_lt_of_lt_mul (by rw [Nat.mul_comm]; exact h1)
 have m1 := Nat.mod_lt (n / (d2 + 1)) (show 0 < d1 + 1 by omega)
 have m2 := Nat.mod_lt n (show 0 < d2 + 1 by omega)
 refine ⟨n / (d2 + 1) / (d1 + 1), n / (d2 + 1) % (d1 + 1), n % (d2 + 1), by omega, by omega, by omega, ?_⟩
 unfold gp
 rw [Nat.mul_comm (n / (d2 + 1) / (d1 + 1)), Nat.div_add_mod, Nat.mul_comm (n / (d2 + 1)), Nat.div_add_mod]
theorem IsG.sign {d0 d1 d2 : Nat} {A : List Int} {f : Nat → Nat → Nat → Int} (h : IsG d0 d1 d2 A f) (hx : ∀ x y z, x ≤ d0 → y ≤ d1 → z ≤ d2 → wr (f x y z) = f x y z) (g : List Nat → Int) (hg : ∀ x y z, g [x, y, z] = f x y z) :
   sg A = sg ((placesL [d0, d1, d2]).map g) := by
 refine sg_congr 1 (by decide) (fun v hv => ?_) (fun u hu => ?_)
 · obtain ⟨n, hn, rfl⟩ := List.mem_iff_getElem.1 hv
   obtain ⟨x, y, z, h1, h2, h3, h4⟩ := gp_surj (n := n) (by rw [← h.1]; exact hn)
   refine ⟨_, List.mem_map.2 ⟨[x, y, z], mem_placesL.2 ⟨rfl, fun s i m hi hm => ?_⟩, rfl⟩, ?_⟩
   · match s with
     | 0 => simp at hi hm; omega
     | 1 => simp at hi hm; omega
     | 2 => simp at hi hm; omega
     | s + 3 => simp at hi
   · have := h.2 x y z h1 h2 h3
     rw [h4, hx x y z h1 h2 h3] at this
     rw [hg, ← this, Int.one_mul]
     simp [hn]
 · obtain ⟨is, his, rfl⟩ := List.mem_map.1 hu
   obtain ⟨h1, h2⟩ := mem_placesL.1 his
   match is, h1 with
   | [x, y, z], _ =>
     have a1 := h2 0 x d0 rfl rfl
     have a2 := h2 1 y d1 rfl rfl
     have a3 := h2 2 z d2 rfl rfl
     have hlt : gp d1 d2 x y z < A.length := by rw [h.1]; exact gp_lt a1 a2 a3
     refine ⟨A[gp d1 d2 x y z], List.getElem_mem hlt, ?_⟩
     have := h.2 x y z a1 a2 a3
     rw [hx x y z a1 a2 a3] at this
     rw [hg, ← this, Int.one_mul]
     simp [hlt]
theorem term_abs {k : Nat} {deg : Int} {t : Tm} {a b c : Ax} {x y z : Nat} (hk : k ≤ 4) (hc : t.c.natAbs ≤ 1000) (hx0 : 0 ≤ t.x) (hy0 : 0 ≤ t.y) (hz0 : 0 ≤ t.z) (hd : t.x + t.y + t.z ≤ deg) (hd4 : deg ≤ 4)
   (ha : a.d ≤ 4) (hb : b.d ≤ 4) (hcd : c.d ≤ 4) (hx : x ≤ a.d) (hy : y ≤ b.d) (hz : z ≤ c.d)
   (a1 : a.lo.natAbs ≤ 128) (a2 : (a.hi - a.lo).natAbs ≤ 256) (b1 : b.lo.natAbs ≤ 128) (b2 : (b.hi - b.lo).natAbs ≤ 256) (c1 : c.lo.natAbs ≤ 128) (c2 : (c.hi - c.lo).natAbs ≤ 256) :
   ((tmC k deg t).1 * prodB [a, b, c] (tmC k deg t).2 [x, y, z]).natAbs ≤ 1000 * (12 * (12 * 12)) * 384 ^ 4 := by
 unfold tmC
 simp only [prodB, Int.mul_one, Int.natAbs_mul]
 have p1 := bta_abs (e := t.x.toNat) ha (by omega) hx a1 a2
 have p2 := bta_abs (e := t.y.toNat) hb (by omega) hy b1 b2
 have p3 := bta_abs (e := t.z.toNat) hcd (by omega) hz c1 c2
 generalize hn : (deg - t.x - t.y - t.z).toNat = n
 have p4 : ((((2 : Int) ^ k) ^ n)).natAbs ≤ 384 ^ n := by
   refine pow_abs _ ?_ n
   have h2 : ((2 : Int) ^ k).natAbs ≤ 2 ^ k := pow_abs 2 (by decide) k
   have h3 : 2 ^ k ≤ 2 ^ 4 := Nat.pow_le_pow_right (by decide) hk
   omega
 have q : 384 ^ n * (384 ^ t.x.toNat * (384 ^ t.y.toNat * 384 ^ t.z.toNat)) ≤ 384 ^ 4 := by
   rw [← Nat.pow_add, ← Nat.pow_add, ← Nat.pow_add]
   exact Nat.pow_le_pow_right (by decide) (by omega)
 refine Nat.le_trans (Nat.mul_le_mul (Nat.mul_le_mul hc p4) (Nat.mul_le_mul p1 (Nat.mul_le_mul p2 p3))) ?_
 refine Nat.le_trans (Nat.le_of_eq ?_) (Nat.mul_le_mul_left (1000 * (12 * (12 * 12))) q)
 generalize 384 ^ n = A
 generalize 384 ^ t.x.toNat = B
 generalize 384 ^ t.y.toNat = C
 generalize 384 ^ t.z.toNat = D
 simp only [Nat.mul_assoc, Nat.mul_comm, Nat.mul_left_comm]
def okAx (a : Ax) : Prop := a.d ≤ 4 ∧ a.lo.natAbs ≤ 128 ∧ (a.hi - a.lo).natAbs ≤ 256
def okT4 (deg : Int) (t : Tm) : Prop := t.c.natAbs ≤ 1000 ∧ 0 ≤ t.x ∧ 0 ≤ t.y ∧ 0 ≤ t.z ∧ t.x + t.y + t.z ≤ deg
theorem coef_wr {k : Nat} {deg : Int} {p : List Tm} {a b c : Ax} {x y z : Nat} (hk : k ≤ 4) (hd4 : deg ≤ 4) (hp : ∀ t ∈ p, okT4 deg t) (hn : p.length ≤ 20)
   (ha : okAx a) (hb : okAx b) (hc : okAx c) (hx : x ≤ a.d) (hy : y ≤ b.d) (hz : z ≤ c.d) :
   wr (coef (p.map (tmC k deg)) [a, b, c] [x, y, z]) = coef (p.map (tmC k deg)) [a, b, c] [x, y, z] := by
 have h1 : (coef (p.map (tmC k deg)) [a, b, c] [x, y, z]).natAbs ≤ (p.map (tmC k deg)).length * (1000 * (12 * (12 * 12)) * 384 ^ 4) := by
   unfold coef
   refine lsum_abs _ _ _ fun u hu => ?_
   obtain ⟨t, ht, rfl⟩ := List.mem_map.1 hu
   obtain ⟨q1, q2, q3, q4, q5⟩ := hp t ht
   exact term_abs hk q1 q2 q3 q4 q5 hd4 ha.1 hb.1 hc.1 hx hy hz ha.2.1 ha.2.2 hb.2.1 hb.2.2 hc.2.1 hc.2.2
 rw [List.length_map] at h1
 have h2 : p.length * (1000 * (12 * (12 * 12)) * 384 ^ 4) ≤ 20 * (1000 * (12 * (12 * 12)) * 384 ^ 4) := Nat.mul_le_mul_right _ hn
 have h3 : 20 * (1000 * (12 * (12 * 12)) * 384 ^ 4) = 751447478108160000 := by decide
 refine wr_id ?_ ?_ <;> omega
theorem IsG.coef {k d0 d1 d2 : Nat} {deg : Int} {p : List Tm} {a b c : Ax} {A : List Int} (h : IsG d0 d1 d2 A (turn3 d0 d1 d2 (gridF (p.map (tmC k deg)) a b c))) (ea : a.d = d0) (eb : b.d = d1) (ec : c.d = d2) (hk : k ≤ 4) (hd4 : deg ≤ 4) (hp : ∀ t ∈ p, okT4 deg t) (hn : p.length ≤ 20)
   (ha : okAx a) (hb : okAx b) (hc : okAx c) : sg A = sg ((placesL ([a, b, c].map (·.d))).map (Proofs.YtagocdkcnajiiaaGreat.coef (p.map (tmC k deg)) [a, b, c])) := by
 subst ea eb ec
 have key : ∀ x y z, x ≤ a.d → y ≤ b.d → z ≤ c.d → turn3 a.d b.d c.d (gridF (p.map (tmC k deg)) a b c) x y z = Proofs.YtagocdkcnajiiaaGreat.coef (p.map (tmC k deg)) [a, b, c] [x, y, z] := fun x y z hx hy hz =>
   turn_coef (fun u hu => by obtain ⟨t, _, rfl⟩ := List.mem_map.1 hu; rfl) ha.1 hb.1 hc.1 hx hy hz
 exact IsG.sign (f := fun x y z => Proofs.YtagocdkcnajiiaaGreat.coef (p.map (tmC k deg)) [a, b, c] [x, y, z]) (h.congr key) (fun x y z hx hy hz => coef_wr hk hd4 hp hn ha hb hc hx hy hz) _ (fun _ _ _ => rfl)
theorem beListSign_ok (lim : Nat) (s l h : Value) (p : List Tm) (L U : List Int) (k d0 d1 d2 : Nat) (H : AHeap) (hl : lim ≤ H.next) (hs : SlT H s p) (hL : SlI H l L) (hU : SlI H h U) (hn : p.length ≤ 20) (hn1 : L.length ≤ 3) (hn2 : U.length = L.length) (hk : k ≤ 4)
   (hp : ∀ t ∈ p, okT4 (degA (-1) p) t) (hdeg4 : degA (-1) p ≤ 4) (e0 : dgS p L U 0 = d0) (e1 : dgS p L U 1 = d1) (e2 : dgS p L U 2 = d2)
   (ha : okAx ⟨L.getD 0 0, U.getD 0 0, d0⟩) (hb : okAx ⟨L.getD 1 0, U.getD 1 0, d1⟩) (hc : okAx ⟨L.getD 2 0, U.getD 2 0, d2⟩) :
   ACalls Tryz.prog lim n_spec_beList [s, l, h, .int .i64 k] H fun v H' => ∃ (a dd : Value) (A : List Int), v = .tuple #[a, dd] ∧ A ≠ [] ∧ A.length ≤ 1000 ∧
     sg A = sg ((placesL ([(⟨L.getD 0 0, U.getD 0 0, d0⟩ : Ax), ⟨L.getD 1 0, U.getD 1 0, d1⟩, ⟨L.getD 2 0, U.getD 2 0, d2⟩].map (·.d))).map (coef (p.map (tmC k (degA (-1) p))) [⟨L.getD 0 0, U.getD 0 0, d0⟩, ⟨L.getD 1 0, U.getD 1 0, d1⟩, ⟨L.getD 2 0, U.getD 2 0, d2⟩])) ∧ SlI H' a A ∧ Ext H H' := by
 have hp' : ∀ t ∈ p, 0 ≤ t.x ∧ t.x ≤ 4 ∧ 0 ≤ t.y ∧ t.y ≤ 4 ∧ 0 ≤ t.z ∧ t.z ≤ 4 := fun t ht => by
   obtain ⟨_, q2, q3, q4, q5⟩ := hp t ht
   omega
 have b0 : d0 ≤ 4 := ha.1
 have b1 : d1 ≤ 4 := hb.1
 have b2 : d2 ≤ 4 := hc.1
 refine (list_ok lim s l h (.int .i64 k) d0 d1 d2 _ H hl b0 b1 b2 (grid_ok lim s l h p L U k d0 d1 d2 H hl hs hL hU (by omega) hn1 hn2 hk hp' (fun t ht => (hp t ht).2.2.2.2) hdeg4 e0 e1 e2 b0 b1 b2)).mono ?_
 rintro _ H' ⟨a, dd, A, rfl, hG, hA, hx⟩
 have hsz : (d0 + 1) * (d1 + 1) * (d2 + 1) ≤ 1000 := Nat.le_trans (Nat.mul_le_mul (Nat.mul_le_mul (show d0 + 1 ≤ 5 by omega) (show d1 + 1 ≤ 5 by omega)) (show d2 + 1 ≤ 5 by omega)) (by decide)
 have hpos : (d0 + 1) * (d1 + 1) * (d2 + 1) ≠ 0 := Nat.mul_ne_zero (Nat.mul_ne_zero (by omega) (by omega)) (by omega)
 refine ⟨a, dd, A, rfl, ?_, by rw [hG.1]; exact hsz, hG.coef rfl rfl rfl hk hdeg4 hp hn ha hb hc, hA, hx⟩
 rintro rfl
 exact hpos hG.1.symm
end Go.Proofs.YtagocdkcnajiiaaGreat
