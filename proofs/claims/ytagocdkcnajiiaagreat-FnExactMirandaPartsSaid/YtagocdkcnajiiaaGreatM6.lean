/- Parts of the proof of a statement of this seat: contracts of functions that the law calls, or the law's own row; no condition. -/
import Derived.Test.YtagocdkcnajiiaaGreatM5
/- Parts of the proof of a statement of this seat: contracts of functions that the law calls, or the law's own row; no condition. -/
/- Bernstein coefficients, plain law of the program's sums; no condition. -/
namespace Go.Proofs.YtagocdkcnajiiaaGreat
open Go.Ab Ints
set_option linter.unusedSimpArgs false
set_option linter.unusedVariables false
theorem prodP_take : ∀ (xs : List Ax) (es js : List Nat) (u : Nat) (hu : u < xs.length), es.length = xs.length → js.length = xs.length →
   prodP (xs.take (u + 1)) (es.take (u + 1)) (js.take (u + 1)) = prodP (xs.take u) (es.take u) (js.take u) * prt xs[u].lo xs[u].hi (es.getD u 0) (js.getD u 0)
 | [], _, _, _, hu, _, _ => by simp at hu
 | a :: xs, [], _, _, _, h, _ => by simp at h
 | a :: xs, e :: es, [], _, _, _, h => by simp at h
 | a :: xs, e :: es, j :: js, 0, _, _, _ => by simp [prodP]
 | a :: xs, e :: es, j :: js, u + 1, hu, h1, h2 => by
   simp only [List.take_succ_cons, prodP]
   rw [prodP_take xs es js u (by simpa using hu) (by simpa using h1) (by simpa using h2), Int.mul_assoc]
   simp
theorem prodW_take : ∀ (xs : List Ax) (is js : List Nat) (u : Nat) (hu : u < xs.length), is.length = xs.length → js.length = xs.length →
   prodW (xs.take (u + 1)) (is.take (u + 1)) (js.take (u + 1)) = prodW (xs.take u) (is.take u) (js.take u) * wgt xs[u].d (is.getD u 0) (js.getD u 0)
 | [], _, _, _, hu, _, _ => by simp at hu
 | a :: xs, [], _, _, _, h, _ => by simp at h
 | a :: xs, e :: es, [], _, _, _, h => by simp at h
 | a :: xs, e :: es, j :: js, 0, _, _, _ => by simp [prodW]
 | a :: xs, e :: es, j :: js, u + 1, hu, h1, h2 => by
   simp only [List.take_succ_cons, prodW]
   rw [prodW_take xs es js u (by simpa using hu) (by simpa using h1) (by simpa using h2), Int.mul_assoc]
   simp
def aF (n k : Nat) (p : List Tm) (L U : List Int) (i : Nat) (js : List Nat) : Int := wr (lsum (fun t => t.1 * prodP (axN p L U n) t.2 js) ((termsN n k p).take i))
def oF (n k : Nat) (p : List Tm) (L U : List Int) (is : List Nat) (pl : List (List Nat)) : Int := wr (lsum (fun js => aF n k p L U p.length js * prodW (axN p L U n) is js) pl)
theorem termsN_length (n k : Nat) (p : List Tm) : (termsN n k p).length = p.length := by simp [termsN]
theorem aF_step {n k : Nat} {p : List Tm} {L U : List Int} {i : Nat} (hi : i < p.length) (js : List Nat) :
   aF n k p L U (i + 1) js = wr (aF n k p L U i js + wr ((tmC k (degA (-1) p) p[i]).1 * prodP (axN p L U n) ((tmC k (degA (-1) p) p[i]).2.take n) js)) := by
 unfold aF
 rw [List.take_succ_eq_append_getElem (by rw [termsN_length]; exact hi), lsum_append, wr_add]
 simp [termsN, lsum]
theorem oF_step {n k : Nat} {p : List Tm} {L U : List Int} (is js : List Nat) (pl : List (List Nat)) :
   oF n k p L U is (pl ++ [js]) = wr (oF n k p L U is pl + wr (aF n k p L U p.length js * prodW (axN p L U n) is js)) := by
 unfold oF
 rw [lsum_append, wr_add]
 simp [lsum]
theorem axN_length (p : List Tm) (L U : List Int) (n : Nat) : (axN p L U n).length = n := by simp [axN]
theorem axN_get {p : List Tm} {L U : List Int} {n u : Nat} (h : u < (axN p L U n).length) : (axN p L U n)[u] = axI p L U u := by simp [axN]
theorem axN_d (p : List Tm) (L U : List Int) (n : Nat) : (axN p L U n).map (·.d) = (List.range n).map (dgI p) := by
 simp [axN, axI, Function.comp_def]
theorem termsN_two {n k : Nat} {p : List Tm} (hn : n ≤ 3) : ∀ t ∈ termsN n k p, t.2.length = n := by
 intro t ht
 obtain ⟨u, _, rfl⟩ := List.mem_map.1 ht
 simp [tmC]
 omega
theorem oF_all {n k : Nat} {p : List Tm} {L U : List Int} (hn : n ≤ 3) {is : List Nat} (his : is.length = n) :
   oF n k p L U is (placesL ((axN p L U n).map (·.d))) = wr (coef (termsN n k p) (axN p L U n) is) := by
 unfold oF aF
 rw [show p.length = (termsN n k p).length from (termsN_length n k p).symm, List.take_length]
 rw [← wr_lsum (fun js => wr (lsum (fun t => t.1 * prodP (axN p L U n) t.2 js) (termsN n k p)) * prodW (axN p L U n) is js)]
 simp only [wr_mul_l]
 rw [wr_lsum (fun js => lsum (fun t => t.1 * prodP (axN p L U n) t.2 js) (termsN n k p) * prodW (axN p L U n) is js)]
 congr 1
 have e1 : ∀ js, lsum (fun t => t.1 * prodP (axN p L U n) t.2 js) (termsN n k p) * prodW (axN p L U n) is js = lsum (fun t => t.1 * (prodP (axN p L U n) t.2 js * prodW (axN p L U n) is js)) (termsN n k p) := by
   intro js
   rw [← lsum_mul_r]
   exact lsum_congr fun t _ => Int.mul_assoc _ _ _
 simp only [e1]
 rw [lsum_swap]
 unfold coef
 refine lsum_congr fun t ht => ?_
 rw [lsum_mul, dist _ _ _ (by rw [axN_length]; exact termsN_two hn t ht) (by rw [axN_length]; exact his)]
structure BnS (H2 H' : AHeap) (b q r : Nat) (av : Value) (A : List Int) (t : Tm) : Prop where
 ext : Ext H2 H'
 vec : VecI H' b av A
 bq : H'.blk q = some (tc t)
 br : H'.blk r = some [vi t.x, vi t.y, vi t.z]
 lt : q < H'.next ∧ r < H'.next
 ne : q ≠ b ∧ r ≠ b
theorem BnS.mono {H2 H' H'' : AHeap} {b q r : Nat} {av : Value} {A : List Int} {t : Tm} (h : BnS H2 H' b q r av A t) (hx : Ext H' H'') : BnS H2 H'' b q r av A t := by
 obtain ⟨h1, h2, h3, h4, h5, h6⟩ := h
 have := hx.next
 exact ⟨h1.trans hx, Vec.ext h2 hx, by rw [hx.blk _ h5.1]; exact h3, by rw [hx.blk _ h5.2]; exact h4, by omega, h6⟩
theorem BnS.put {lim : Nat} {H2 H' : AHeap} {b q r : Nat} {av : Value} {A : List Int} {t : Tm} (h : BnS H2 H' b q r av A t) (hl : lim ≤ b) (hb : H2.next ≤ b) {i : Nat} (hi : i < A.length) (x : Int) :
   ∃ cs, storeH lim H' 1 (.pointer (some ⟨b, i, none⟩)) (.int .i64 x) = some (undef, H'.put b cs) ∧ BnS H2 (H'.put b cs) b q r av (A.set i x) t := by
 obtain ⟨h1, h2, h3, h4, h5, h6⟩ := h
 obtain ⟨cs, g1, g2⟩ := VecI.put (lim := lim) h2 hl hi x
 exact ⟨cs, g1, Chg.ext h1 (Chg.put _ _ _) hb, g2, by rw [put_ne _ _ h6.1]; exact h3, by rw [put_ne _ _ h6.2]; exact h4, h5, h6⟩
theorem shl_c {k m : Nat} (c : Int) (h : k * m ≤ 60) : ¬ (((k * m : Nat) : Int) < 0) ∧ IntKind.i64.wrap (c * 2 ^ min ((k * m : Nat) : Int).toNat IntKind.i64.bits) = wr (c * ((2 : Int) ^ k) ^ m) := by
 have : min ((k * m : Nat) : Int).toNat IntKind.i64.bits = k * m := by
   show min ((k * m : Nat) : Int).toNat 64 = k * m
   omega
 rw [this, Int.pow_mul]
 exact ⟨by omega, rfl⟩
def gA (n k : Nat) (p : List Tm) (L U : List Int) (PL : List (List Nat)) (i x : Nat) : List Int := (List.range PL.length).map fun y => if y < x then aF n k p L U (i + 1) (PL.getD y []) else aF n k p L U i (PL.getD y [])
theorem gA_length (n k : Nat) (p : List Tm) (L U : List Int) (PL : List (List Nat)) (i x : Nat) : (gA n k p L U PL i x).length = PL.length := by simp [gA]
theorem gA_at {n k : Nat} {p : List Tm} {L U : List Int} {PL : List (List Nat)} {i x : Nat} (h : x < PL.length) : (gA n k p L U PL i x).getD x 0 = aF n k p L U i (PL.getD x []) := by simp [gA, h]
theorem gA_zero {n k : Nat} {p : List Tm} {L U : List Int} {PL : List (List Nat)} {i y : Nat} (h : y < PL.length) : (gA n k p L U PL i 0).getD y 0 = aF n k p L U i (PL.getD y []) := by simp [gA, h]
theorem gA_set {n k : Nat} {p : List Tm} {L U : List Int} {PL : List (List Nat)} {i x : Nat} (h : x < PL.length) : (gA n k p L U PL i x).set x (aF n k p L U (i + 1) (PL.getD x [])) = gA n k p L U PL i (x + 1) := by
 unfold gA
 have es := set_map_range (n := PL.length) (u := x) (fun y => if y < x then aF n k p L U (i + 1) (PL.getD y []) else aF n k p L U i (PL.getD y [])) (fun y => if y < x + 1 then aF n k p L U (i + 1) (PL.getD y []) else aF n k p L U i (PL.getD y [])) h (fun y hy hne => by
   by_cases h : y < x
   · simp [h, show y < x + 1 by omega]
   · simp [h, show ¬ y < x + 1 by omega])
 simp only [show x < x + 1 by omega, if_true] at es
 exact es
theorem gA_next (n k : Nat) (p : List Tm) (L U : List Int) (PL : List (List Nat)) (i : Nat) : gA n k p L U PL i PL.length = gA n k p L U PL (i + 1) 0 := by
 unfold gA
 refine List.map_congr_left fun y hy => ?_
 rw [if_pos (List.mem_range.1 hy), if_neg (by omega)]
theorem ints_zl (p : List Tm) (L U : List Int) (n : Nat) : ((List.range n).map fun (k : Nat) => degF k 0 p) = zl ((axN p L U n).map (·.d)) := by
 rw [axN_d, zl, List.map_map]
 exact List.map_congr_left fun k _ => (dgI_int p k).symm
theorem zl_at {H : AHeap} {v : Value} {l : List Nat} (h : SlI H v (zl l)) {i : Nat} (hi : i < l.length) : ∃ b o, iadV 1 v (.int .i64 i) = some (.pointer (some ⟨b, o, none⟩)) ∧ H.cell b o = some (.int .i64 ((l.getD i 0 : Nat) : Int)) := by
 obtain ⟨b, o, h1, _, h3⟩ := SlI.get h (i := i) (by rw [zl_length]; exact hi)
 refine ⟨b, o, h1, ?_⟩
 rw [h3]
 simp [zl, hi]
theorem ints_at {H : AHeap} {v : Value} {l : List Int} (h : SlI H v l) {i : Nat} (hi : i < l.length) : ∃ b o, iadV 1 v (.int .i64 i) = some (.pointer (some ⟨b, o, none⟩)) ∧ H.cell b o = some (.int .i64 (l.getD i 0)) := by
 obtain ⟨b, o, h1, _, h3⟩ := SlI.get h hi
 refine ⟨b, o, h1, ?_⟩
 rw [h3]
 simp [hi]
theorem ex_nat {t : Tm} {k : Nat} {deg : Int} (h : 0 ≤ t.x ∧ t.x ≤ 4 ∧ 0 ≤ t.y ∧ t.y ≤ 4 ∧ 0 ≤ t.z ∧ t.z ≤ 4) {n u : Nat} (hu : u < n) (hn : n ≤ 3) : ∃ e : Nat, ex t u = e ∧ e ≤ 4 ∧ ((tmC k deg t).2.take n).getD u 0 = e := by
 have h3 : u = 0 ∨ u = 1 ∨ u = 2 := by omega
 rcases h3 with rfl | rfl | rfl
 · refine ⟨t.x.toNat, by simp [ex]; omega, by omega, ?_⟩
   match n, hu with
   | n + 1, _ => simp [tmC]
 · refine ⟨t.y.toNat, by simp [ex]; omega, by omega, ?_⟩
   match n, hu with
   | n + 2, _ => simp [tmC]
 · refine ⟨t.z.toNat, by simp [ex]; omega, by omega, ?_⟩
   match n, hu with
   | n + 3, _ => simp [tmC]
theorem tm_two {k n : Nat} {deg : Int} {t : Tm} (hn : n ≤ 3) : ((tmC k deg t).2.take n).length = n := by simp [tmC]; omega
theorem places_bound {ms l : List Nat} (h : l ∈ placesL ms) (hm : ∀ m ∈ ms, m ≤ 4) {u : Nat} (hu : u < ms.length) : l.getD u 0 ≤ ms.getD u 0 ∧ ms.getD u 0 ≤ 4 := by
 obtain ⟨h1, h2⟩ := mem_placesL.1 h
 have e1 : ms[u]? = some ms[u] := List.getElem?_eq_getElem hu
 have e2 : l[u]? = some (l[u]'(by omega)) := List.getElem?_eq_getElem (by omega)
 have := h2 u _ _ e2 e1
 have h4 := hm _ (List.getElem_mem hu)
 simp only [List.getD_eq_getElem?_getD, e1, e2, Option.getD_some]
 exact ⟨this, h4⟩
theorem wgtI_code : ∀ d : Fin 5, ∀ i : Fin 5, ∀ j : Fin 5, i.val ≤ d.val → j.val ≤ d.val → chs d.val j.val ≠ 0 ∧ wr (wr ((fac d.val : Int).tdiv (chs d.val j.val : Int)) * (chs i.val j.val : Int)) = wgt d.val i.val j.val := by decide +kernel
def oG (n k : Nat) (p : List Tm) (L U : List Int) (PL : List (List Nat)) (x y : Nat) : List Int := (List.range PL.length).map fun z => if z < x then oF n k p L U (PL.getD z []) PL else if z = x then oF n k p L U (PL.getD z []) (PL.take y) else 0
theorem oG_length (n k : Nat) (p : List Tm) (L U : List Int) (PL : List (List Nat)) (x y : Nat) : (oG n k p L U PL x y).length = PL.length := by simp [oG]
theorem oG_at {n k : Nat} {p : List Tm} {L U : List Int} {PL : List (List Nat)} {x y : Nat} (h : x < PL.length) : (oG n k p L U PL x y).getD x 0 = oF n k p L U (PL.getD x []) (PL.take y) := by simp [oG, h]
theorem oG_set {n k : Nat} {p : List Tm} {L U : List Int} {PL : List (List Nat)} {x y : Nat} (h : x < PL.length) : (oG n k p L U PL x y).set x (oF n k p L U (PL.getD x []) (PL.take (y + 1))) = oG n k p L U PL x (y + 1) := by
 unfold oG
 have es := set_map_range (n := PL.length) (u := x) (fun z => if z < x then oF n k p L U (PL.getD z []) PL else if z = x then oF n k p L U (PL.getD z []) (PL.take y) else 0) (fun z => if z < x then oF n k p L U (PL.getD z []) PL else if z = x then oF n k p L U (PL.getD z []) (PL.take (y + 1)) else 0) h (fun z hz hne => by simp [hne])
 simp only [show ¬ x < x by omega, if_true, if_false] at es
 exact es
theorem oG_next (n k : Nat) (p : List Tm) (L U : List Int) (PL : List (List Nat)) (x : Nat) : oG n k p L U PL x PL.length = oG n k p L U PL (x + 1) 0 := by
 unfold oG
 refine List.map_congr_left fun z hz => ?_
 by_cases h1 : z < x
 · rw [if_pos h1, if_pos (by omega)]
 · rw [if_neg h1]
   by_cases h2 : z = x
   · subst h2
     rw [if_pos rfl, if_pos (by omega), List.take_length]
   · rw [if_neg h2, if_neg (by omega)]
     split <;> rfl
theorem oG_zero (n k : Nat) (p : List Tm) (L U : List Int) (PL : List (List Nat)) : List.replicate PL.length (0 : Int) = oG n k p L U PL 0 0 := by
 unfold oG
 refine List.ext_getElem (by simp) fun z h1 h2 => ?_
 simp only [List.getElem_replicate, List.getElem_map, List.getElem_range]
 rw [if_neg (by omega)]
 split <;> rfl
theorem oG_all {n k : Nat} {p : List Tm} {L U : List Int} {PL : List (List Nat)} (g : List Nat → Int) (h : ∀ is ∈ PL, oF n k p L U is PL = g is) : oG n k p L U PL PL.length 0 = PL.map g := by
 unfold oG
 refine List.ext_getElem (by simp) fun z h1 h2 => ?_
 simp only [List.getElem_map, List.getElem_range]
 have hz : z < PL.length := by simpa using h1
 rw [if_pos hz, ← h _ (List.getElem_mem hz)]
 simp [hz]
theorem bernstein_ok (lim : Nat) (s lo hi : Value) (p : List Tm) (L U : List Int) (k n : Nat) (H : AHeap) (hl : lim ≤ H.next) (hs : SlT H s p) (hlo : SlI H lo L) (hhi : SlI H hi U)
   (hg : goodP p = true) (hk : k ≤ 4) (hn3 : n ≤ 3) (hL : L.length = n) (hU : U.length = n) :
   ACalls Tryz.prog lim n_impl_bernstein [s, .int .i64 k, lo, hi] H fun v H' => ∃ b, VecI H' b v ((placesL ((axN p L U n).map (·.d))).map fun is => wr (coef (termsN n k p) (axN p L U n) is)) ∧ Ext H H' := by
 obtain ⟨gg1, gg2, gg3⟩ := goodP_ok hg
 have hbd : ∀ t ∈ p, 0 ≤ t.x ∧ t.x ≤ 4 ∧ 0 ≤ t.y ∧ t.y ≤ 4 ∧ 0 ≤ t.z ∧ t.z ≤ 4 := fun t ht => (gg1 t ht).2
 have hd := dgI_le hbd
 have hds : ∀ m ∈ (axN p L U n).map (·.d), m ≤ 4 := by
   rw [axN_d]
   intro m hm
   obtain ⟨j, _, rfl⟩ := List.mem_map.1 hm
   exact hd j
 have hdl : ((axN p L U n).map (·.d)).length = n := by rw [List.length_map, axN_length]
 have hN : (placesL ((axN p L U n).map (·.d))).length ≤ 125 := by
   have h1 := placesL_length hds
   have h2 : (5 : Nat) ^ ((axN p L U n).map (·.d)).length ≤ 5 ^ 3 := Nat.pow_le_pow_right (by decide) (by omega)
   omega
 refine is_impl_bernstein.go rfl ?_
 unfold c_impl_bernstein
 refine s_reg ?_
 simp only [o_pure, o_nil, POp.ev, Opd.ev, env0, gu, setD, List.set, xsj, xel]
 have hll := hlo.lenV
 rw [hL] at hll
 refine s_reg ?_
 simp only [o_pure, o_nil, POp.ev, Opd.ev, gv, setD, List.set, xsj, xel, hll]
 refine s_reg ?_
 simp only [o_pure, o_callF, POp.ev, Opd.ev, gv, setD, List.map, xsj, xel]
 refine (degreesOf_ok lim s p n H hl hs (by omega) hn3).mono ?_
 rintro dv H1 ⟨c, hc1, hc2, hdv, hx1⟩
 rw [ints_zl p L U n] at hdv
 have hn1 := hx1.next
 simp only [o_cont, o_pure, o_callF, POp.ev, Opd.ev, gv, setD, List.map, xsj, xel]
 refine (degreeOf_ok lim s p H1 (by omega) (hs.ext hx1) (by omega) hbd).mono ?_
 rintro _ H1' ⟨rfl, hx1'⟩
 have hn1' := hx1'.next
 simp only [o_cont, o_pure, o_nil, POp.ev, Opd.ev, gv, setD, List.set, xsj, xel]
 refine s_reg ?_
 simp only [o_pure, o_callF, POp.ev, Opd.ev, gv, setD, List.map, xsj, xel]
 refine (places_ok lim dv _ H1' (by omega) (Vec.sl (Vec.ext hdv hx1')) hds (by omega)).mono ?_
 rintro all H2 ⟨hall, hx2⟩
 have hn2 := hx2.next
 have hx12 := (hx1.trans hx1').trans hx2
 have hdv2 : SlI H2 dv (zl ((axN p L U n).map (·.d))) := Vec.sl (Vec.ext (Vec.ext hdv hx1') hx2)
 have hs2 := hs.ext hx12
 have hlo2 := SlI.ext hlo hx12
 have hhi2 := SlI.ext hhi hx12
 have hnH2 := hx12.next
 have hiE : ∀ is ∈ placesL ((axN p L U n).map (·.d)), is.length = n := fun is h => by rw [placesL_len _ _ h, hdl]
 have hbE : ∀ is ∈ placesL ((axN p L U n).map (·.d)), ∀ u, u < n → is.getD u 0 ≤ dgI p u ∧ is.getD u 0 ≤ 4 := fun is h u hu => by
   have h1 := places_bound h hds (u := u) (by omega)
   have h2 : ((axN p L U n).map (·.d)).getD u 0 = dgI p u := by rw [axN_d]; simp [hu]
   rw [h2] at h1
   omega
 have hFin : ∀ is ∈ placesL ((axN p L U n).map (·.d)), oF n k p L U is (placesL ((axN p L U n).map (·.d))) = wr (coef (termsN n k p) (axN p L U n) is) := fun is h => oF_all hn3 (hiE is h)
 have hdg : ∀ u, u < n → ((axN p L U n).map (·.d)).getD u 0 = dgI p u := fun u hu => by rw [axN_d]; simp [hu]
 generalize hDS : (axN p L U n).map (·.d) = DS at *
 generalize placesL DS = PL at *
 simp only [o_cont, o_pure, o_nil, POp.ev, Opd.ev, gv, setD, List.set, xsj, xel]
 have hmk := mkslice_int (H := H2) 8 PL.length PL.length [.int .i64 0] (Nat.le_refl _) (by omega) (by omega)
 rw [zerosL_one] at hmk
 have hal := hall.lenV
 rw [List.length_map] at hal
 refine s_reg ?_
 simp only [o_pure, o_eff, o_nil, POp.ev, Opd.ev, EOp.ev, gv, setD, List.set, xsj, xel, hal, hmk]
 have hv := VecI.mk' H2 PL.length
 have hx3 := Ext.alloc H2 (List.replicate PL.length (Value.int .i64 0))
 have hbl : H2.next < (H2.alloc (List.replicate PL.length (Value.int .i64 0))).next := Nat.lt_succ_self _
 generalize H2.alloc (List.replicate PL.length (Value.int .i64 0)) = H3 at hv hx3 hbl ⊢
 generalize (Value.slice (some ⟨H2.next, 0, some 0⟩) PL.length PL.length) = av at hv ⊢
 have e0 : List.replicate PL.length (0 : Int) = gA n k p L U PL 0 0 := by
   unfold gA
   refine List.ext_getElem (by simp) fun x h1 h2 => ?_
   simp [aF, lsum, wr]
   rfl
 rw [e0] at hv
 generalize hbE2 : H2.next = b at hv hbl
 refine s_cut (fun e' H' => ∃ (y10 y11 y12 y13 y14 y15 y16 y17 y28 y29 y30 y31 y32 y33 y34 y35 y36 y37 : Value), VecI H' b av (gA n k p L U PL p.length 0) ∧ Ext H2 H' ∧ b < H'.next ∧ e' = [s, .int .i64 k, lo, hi, .slice none 0 0, .int .i64 n, dv, .int .i64 (degA (-1) p), all, av, y10, y11, y12, y13, y14, y15, y16, y17, undef, undef, undef, undef, undef, undef, undef, s, .int .i64 p.length, .int .i64 p.length, y28, y29, y30, y31, y32, y33, y34, y35, y36, y37, undef, undef, undef, undef, undef, undef, undef, undef]) ?_ ?_
 · refine s_reg ?_
   simp only [o_pure, o_nil, POp.ev, Opd.ev, gv, setD, List.set, xsj, xel, hs2.lenV]
   refine s_block1 ?_
   refine s_loop1 (fun j e' H' => ∃ (i : Nat) (y10 y11 y12 y13 y14 y15 y16 y17 y28 y29 y30 y31 y32 y33 y34 y35 y36 y37 : Value), i + j = p.length ∧ VecI H' b av (gA n k p L U PL i 0) ∧ Ext H2 H' ∧ b < H'.next ∧ e' = [s, .int .i64 k, lo, hi, .slice none 0 0, .int .i64 n, dv, .int .i64 (degA (-1) p), all, av, y10, y11, y12, y13, y14, y15, y16, y17, undef, undef, undef, undef, undef, undef, undef, s, .int .i64 p.length, .int .i64 i, y28, y29, y30, y31, y32, y33, y34, y35, y36, y37, undef, undef, undef, undef, undef, undef, undef, undef]) p.length ⟨0, _, _, _, _, _, _, _, _, _, _, _, _, _, _, _, _, _, _, by omega, hv, hx3, hbl, rfl⟩ ?_
   clear hv hx3 hbl
   rintro j e' H4 ⟨i, y10, y11, y12, y13, y14, y15, y16, y17, y28, y29, y30, y31, y32, y33, y34, y35, y36, y37, hij, hv, hx, hbl, rfl⟩
   have hnx := hx.next
   refine s_test ?_
   simp only [o_pure, o_nil, POp.ev, Opd.ev, gv, setD, xsj, xel, binV, ne_eq, xnt, if_false]
   refine Test.split (fun hlt => ?_) (fun hlt => ?_)
   · have hip : i < p.length := by simpa using hlt
     obtain ⟨b1, o1, h1, hat⟩ := (hs2.ext hx).at hip
     have hbi := hbd _ (List.getElem_mem hip)
     have hdi := (gg1 _ (List.getElem_mem hip)).1.2.2.2.2
     refine s_skip1 ?_
     simp +decide only [pqn]
     refine s_block1 ?_
     refine s_reg ?_
     simp only [o_pure, o_eff, o_nil, POp.ev, Opd.ev, EOp.ev, gv, setD, List.set, xsj, xel, h1, hat.all, store4_new (lim := lim) (H := H4) (by omega)]
     have hB := BoxT.mk' H4 p[i]
     generalize H4.alloc (tc p[i]) = H5 at hB ⊢
     generalize H4.next = q at hB hnx hbl ⊢
     have hxB := hB.ext
     have hnB := hxB.next
     have hlB := hB.lt
     have hgB := hB.ge
     have hbB := hB.blk
     refine s_reg ?_
     simp only [o_pure, o_callF, POp.ev, Opd.ev, gv, setD, List.map, xsj, xel, hB.all]
     refine (exponents_ok lim _ _ (by omega)).mono ?_
     rintro _ H6 ⟨rfl, hx6⟩
     have hn6 := hx6.next
     simp only [o_cont, o_eff, o_nil, Opd.ev, EOp.ev, gv, setD, List.set, xsj, xel, expV_agg, store3_new (lim := lim) (H := H6) (by omega)]
     have hq : (H6.alloc [vi p[i].x, vi p[i].y, vi p[i].z]).blk H6.next = some [vi p[i].x, vi p[i].y, vi p[i].z] := alloc_new _ _
     have hx7 := Ext.alloc H6 [vi p[i].x, vi p[i].y, vi p[i].z]
     have hlt7 : H6.next < (H6.alloc [vi p[i].x, vi p[i].y, vi p[i].z]).next := Nat.lt_succ_self _
     generalize H6.alloc [vi p[i].x, vi p[i].y, vi p[i].z] = H7 at hq hx7 hlt7 ⊢
     generalize H6.next = r at hq hlt7 hn6 ⊢
     have hxa := (hxB.trans hx6).trans hx7
     have hbq7 : H7.blk q = some (tc p[i]) := by rw [(hx6.trans hx7).blk _ hlB]; exact hbB
     have hS : BnS H2 H7 b q r av (gA n k p L U PL i 0) p[i] := ⟨hx.trans hxa, Vec.ext hv hxa, hbq7, hq, ⟨by omega, hlt7⟩, by omega, by omega⟩
     clear hbq7 hq hlt7 hxa hx7 hx6 hB hxB hbB hv
     refine s_reg ?_
     simp only [o_pure, o_nil, POp.ev, Opd.ev, gv, setD, List.set, xsj, xel, hal]
     refine s_block1 ?_
     refine s_loop1 (fun j e' H' => ∃ (x : Nat) (y12 y13 y14 y15 y16 y17 y31 y32 y33 y34 y35 y36 y37 : Value), x + j = PL.length ∧ BnS H2 H' b q r av (gA n k p L U PL i x) p[i] ∧ e' = [s, .int .i64 k, lo, hi, .slice none 0 0, .int .i64 n, dv, .int .i64 (degA (-1) p), all, av, .pointer (some ⟨q, 0, none⟩), .pointer (some ⟨r, 0, none⟩), y12, y13, y14, y15, y16, y17, undef, undef, undef, undef, undef, undef, undef, s, .int .i64 p.length, .int .i64 i, all, .int .i64 PL.length, .int .i64 x, y31, y32, y33, y34, y35, y36, y37, undef, undef, undef, undef, undef, undef, undef, undef]) PL.length ⟨0, _, _, _, _, _, _, _, _, _, _, _, _, _, by omega, hS, rfl⟩ ?_
     clear hS
     rintro j2 e' H8 ⟨x, y12, y13, y14, y15, y16, y17, y31, y32, y33, y34, y35, y36, y37, hxj, hS, rfl⟩
     have hx8 := hS.ext
     have hn8 := hx8.next
     refine s_test ?_
     simp only [o_pure, o_nil, POp.ev, Opd.ev, gv, setD, xsj, xel, binV, ne_eq, xnt, if_false]
     refine Test.split (fun hlt2 => ?_) (fun hlt2 => ?_)
     · have hxl : x < PL.length := by simpa using hlt2
       have hjm := List.getElem_mem hxl
       have hgx : PL.getD x [] = PL[x] := by simp [hxl]
       obtain ⟨b2, o2, pw, w2, w3⟩ := hall.atx (i := x) (by rw [List.length_map]; exact hxl)
       simp only [List.getElem_map] at w3
       have hjl := hiE _ hjm
       have hjb := hbE _ hjm
       obtain ⟨m, hm⟩ : ∃ m : Nat, degA (-1) p - (p[i].x + p[i].y + p[i].z) = m := ⟨(degA (-1) p - (p[i].x + p[i].y + p[i].z)).toNat, by omega⟩
       have hm5 : m ≤ 4 := by omega
       have hkm : k * m ≤ 4 * 4 := Nat.mul_le_mul hk hm5
       have f1 : IntKind.i64.wrap (degA (-1) p - (p[i].x + p[i].y + p[i].z)) = (m : Int) := by rw [hm]; exact wr_nat (by omega)
       have f2 : IntKind.i64.wrap ((k : Int) * (m : Int)) = ((k * m : Nat) : Int) := wr_nat (n := k * m) (by omega)
       obtain ⟨f3, f4⟩ := shl_c (k := k) (m := m) p[i].c (by omega)
       have hct : p[i].c * ((2 : Int) ^ k) ^ m = (tmC k (degA (-1) p) p[i]).1 := by
         unfold tmC
         rw [show (degA (-1) p - p[i].x - p[i].y - p[i].z).toNat = m by omega]
       rw [hct] at f4
       refine s_skip1 ?_
       simp +decide only [pqn]
       refine s_block1 ?_
       refine s_reg ?_
       simp only [o_pure, o_nil, POp.ev, Opd.ev, gv, setD, List.set, xsj, xel, load1V, w2, (w3 _ hx8).1]
       refine s_reg ?_
       simp only [o_pure, o_callN, POp.ev, Opd.ev, gv, setD, List.map, xsj, xel, load1V, fadV, xgz, Nat.zero_add, cell_blk hS.bq, load4 hS.bq, tc]
       refine (degree_ok _ p[i] H8 ⟨hbi.1, hbi.2.1⟩ ⟨hbi.2.2.1, hbi.2.2.2.1⟩ hbi.2.2.2.2).use ?_
       rintro _ H9 ⟨rfl, hx9⟩ _
       replace hS := hS.mono hx9
       simp only [o_cont, o_pure, o_nil, POp.ev, Opd.ev, gv, setD, List.set, xsj, xel, binV, ne_eq, xnt, if_false, f1, f2, f3, f4]
       refine s_assoc (s_reg ?_)
       simp only [o_pure, o_nil, POp.ev, Opd.ev, gv, setD, List.set, Option.map_none, xms, xsj, xel, aslc_to hn3, lenV]
       have hx9' := hS.ext
       refine s_block ?_
       refine s_loop1 (fun j e' H' => ∃ (u : Nat) (y15 y16 y17 y34 y35 y36 y37 : Value), u + j = n ∧ H' = H9 ∧ e' = [s, .int .i64 k, lo, hi, .slice none 0 0, .int .i64 n, dv, .int .i64 (degA (-1) p), all, av, .pointer (some ⟨q, 0, none⟩), .pointer (some ⟨r, 0, none⟩), .int .i64 x, pw, .int .i64 (wr ((tmC k (degA (-1) p) p[i]).1 * prodP ((axN p L U n).take u) (((tmC k (degA (-1) p) p[i]).2.take n).take u) (PL[x].take u))), y15, y16, y17, undef, undef, undef, undef, undef, undef, undef, s, .int .i64 p.length, .int .i64 i, all, .int .i64 PL.length, .int .i64 x, .slice (some ⟨r, 0, some 0⟩) n 3, .int .i64 n, .int .i64 u, y34, y35, y36, y37, undef, undef, undef, undef, undef, undef, undef, undef]) n ⟨0, _, _, _, _, _, _, _, by omega, rfl, by simp only [List.take_zero, prodP, Int.mul_one]; rfl⟩ ?_
       rintro j3 e' H9 ⟨u, y15, y16, y17, y34, y35, y36, y37, huj, rfl, rfl⟩
       refine s_test ?_
       simp only [o_pure, o_nil, POp.ev, Opd.ev, gv, setD, xsj, xel, binV, ne_eq, xnt, if_false]
       refine Test.split (fun hlt3 => ?_) (fun hlt3 => ?_)
       · have hun : u < n := by simpa using hlt3
         obtain ⟨e, he, he4, hee⟩ := ex_nat (k := k) (deg := degA (-1) p) hbi hun hn3
         have hcell := ex_cell hS.br (show u < 3 by omega)
         rw [he] at hcell
         obtain ⟨b3, o3, u1, u2⟩ := zl_at ((w3 _ hx9').2) (i := u) (by omega)
         have hj4 := (hjb u hun).2
         have hax : u < (axN p L U n).length := by rw [axN_length]; exact hun
         have hstep := prodP_take (axN p L U n) ((tmC k (degA (-1) p) p[i]).2.take n) PL[x] u hax (by rw [axN_length]; exact tm_two hn3) (by rw [axN_length]; exact hjl)
         rw [axN_get hax, hee] at hstep
         have hlx : (axI p L U u).lo = L.getD u 0 := rfl
         have hhx : (axI p L U u).hi = U.getD u 0 := rfl
         rw [hlx, hhx] at hstep
         obtain ⟨b4, o4, l1, l2⟩ := ints_at (SlI.ext hlo2 hx9') (i := u) (by omega)
         obtain ⟨b5, o5, m1, m2⟩ := ints_at (SlI.ext hhi2 hx9') (i := u) (by omega)
         refine s_skip1 ?_
         simp +decide only [pqn]
         refine s_block1 ?_
         refine s_reg ?_
         simp only [o_pure, o_nil, POp.ev, Opd.ev, gv, setD, List.set, xsj, xel, load1V, iad_cell (i := u) .i64 hun, hcell]
         refine s_reg ?_
         simp only [o_pure, o_nil, POp.ev, Opd.ev, gv, setD, List.set, xsj, xel, load1V, u1, u2]
         have f5 : IntKind.i64.wrap (wr ((tmC k (degA (-1) p) p[i]).1 * prodP ((axN p L U n).take u) (((tmC k (degA (-1) p) p[i]).2.take n).take u) (PL[x].take u)) * (chs e (PL[x].getD u 0) : Int)) = wr (((tmC k (degA (-1) p) p[i]).1 * prodP ((axN p L U n).take u) (((tmC k (degA (-1) p) p[i]).2.take n).take u) (PL[x].take u)) * (chs e (PL[x].getD u 0) : Int)) := wr_mul_l _ _
         refine s_reg ?_
         simp only [o_pure, o_callF, POp.ev, Opd.ev, gv, setD, List.map, xsj, xel]
         refine (iChoose_ok lim e (PL[x].getD u 0) H9 he4 hj4).eq ?_
         simp only [o_cont, o_pure, o_nil, POp.ev, Opd.ev, gv, setD, List.set, xsj, xel, binV, ne_eq, xnt, if_false, f5]
         refine s_assoc (s_reg ?_)
         simp only [o_pure, o_nil, POp.ev, Opd.ev, gv, setD, List.set, xsj, xel]
         refine s_block ?_
         refine s_loop1 (fun j e' H'' => ∃ (q1 : Nat) (y36 y37 : Value), q1 + j = PL[x].getD u 0 ∧ H'' = H9 ∧ e' = [s, .int .i64 k, lo, hi, .slice none 0 0, .int .i64 n, dv, .int .i64 (degA (-1) p), all, av, .pointer (some ⟨q, 0, none⟩), .pointer (some ⟨r, 0, none⟩), .int .i64 x, pw, .int .i64 (wr (((tmC k (degA (-1) p) p[i]).1 * prodP ((axN p L U n).take u) (((tmC k (degA (-1) p) p[i]).2.take n).take u) (PL[x].take u)) * (chs e (PL[x].getD u 0) : Int) * (U.getD u 0 - L.getD u 0) ^ q1)), .int .i64 u, .int .i64 (e : Nat), .int .i64 (PL[x].getD u 0 : Nat), undef, undef, undef, undef, undef, undef, undef, s, .int .i64 p.length, .int .i64 i, all, .int .i64 PL.length, .int .i64 x, .slice (some ⟨r, 0, some 0⟩) n 3, .int .i64 n, .int .i64 u, .int .i64 (PL[x].getD u 0 : Nat), .int .i64 (q1 : Nat), y36, y37, undef, undef, undef, undef, undef, undef, undef, undef]) (PL[x].getD u 0) ⟨0, _, _, by omega, rfl, by rw [Int.pow_zero, Int.mul_one]; rfl⟩ ?_
         rintro j4 e' H9 ⟨q1, y36, y37, hqj, rfl, rfl⟩
         refine s_test ?_
         simp only [o_pure, o_nil, POp.ev, Opd.ev, gv, setD, xsj, xel, binV, ne_eq, xnt, if_false]
         refine Test.split (fun hlt4 => ?_) (fun hlt4 => ?_)
         · have hql : q1 < PL[x].getD u 0 := by have := of_decide_eq_true hlt4; omega
           have f6 : IntKind.i64.wrap (wr (((tmC k (degA (-1) p) p[i]).1 * prodP ((axN p L U n).take u) (((tmC k (degA (-1) p) p[i]).2.take n).take u) (PL[x].take u)) * (chs e (PL[x].getD u 0) : Int) * (U.getD u 0 - L.getD u 0) ^ q1) * IntKind.i64.wrap (U.getD u 0 - L.getD u 0)) = wr (((tmC k (degA (-1) p) p[i]).1 * prodP ((axN p L U n).take u) (((tmC k (degA (-1) p) p[i]).2.take n).take u) (PL[x].take u)) * (chs e (PL[x].getD u 0) : Int) * (U.getD u 0 - L.getD u 0) ^ (q1 + 1)) := by
             rw [Int.pow_succ, ← Int.mul_assoc]
             exact wr_mul _ _
           refine s_skip1 ?_
           simp +decide only [pqn]
           refine s_block1 ?_
           refine s_reg1 ?_
           simp only [o_pure, o_nil, POp.ev, Opd.ev, gv, setD, List.set, xsj, xel, binV, load1V, ne_eq, xnt, if_false, l1, l2, m1, m2, f6]
           simp +decide only [pqn, pbn]
           refine s_reg1 ?_
           simp only [o_pure, o_nil, POp.ev, Opd.ev, gv, setD, List.set, xsj, xel, binV, ne_eq, xnt, if_false, add1 (i := q1) (by omega)]
           simp +decide only [pqn]
           exact Round.mk (j4 - 1) (by omega) ⟨q1 + 1, _, _, by omega, rfl, rfl⟩
         · have hqe : q1 = PL[x].getD u 0 := by have := of_decide_eq_false hlt4; omega
           subst hqe
           have f7 : IntKind.i64.wrap ((e : Int) - ((PL[x].getD u 0 : Nat) : Int)) = (e : Int) - ((PL[x].getD u 0 : Nat) : Int) := wr_id (by omega) (by omega)
           refine s_exit1 ?_
           simp +decide only [pqn, pqe, pbn, pbe, reduceIte]
           refine s_reg ?_
           simp only [o_pure, o_nil, POp.ev, Opd.ev, gv, setD, List.set, xsj, xel, binV, ne_eq, xnt, if_false, f7]
           refine s_block1 ?_
           refine s_loop1 (fun j e' H'' => ∃ (q1 : Nat), q1 + j = e - PL[x].getD u 0 ∧ H'' = H9 ∧ e' = [s, .int .i64 k, lo, hi, .slice none 0 0, .int .i64 n, dv, .int .i64 (degA (-1) p), all, av, .pointer (some ⟨q, 0, none⟩), .pointer (some ⟨r, 0, none⟩), .int .i64 x, pw, .int .i64 (wr (((tmC k (degA (-1) p) p[i]).1 * prodP ((axN p L U n).take u) (((tmC k (degA (-1) p) p[i]).2.take n).take u) (PL[x].take u)) * (chs e (PL[x].getD u 0) : Int) * (U.getD u 0 - L.getD u 0) ^ (PL[x].getD u 0) * L.getD u 0 ^ q1)), .int .i64 u, .int .i64 (e : Nat), .int .i64 (PL[x].getD u 0 : Nat), undef, undef, undef, undef, undef, undef, undef, s, .int .i64 p.length, .int .i64 i, all, .int .i64 PL.length, .int .i64 x, .slice (some ⟨r, 0, some 0⟩) n 3, .int .i64 n, .int .i64 u, .int .i64 (PL[x].getD u 0 : Nat), .int .i64 (PL[x].getD u 0 : Nat), .int .i64 ((e : Int) - (PL[x].getD u 0 : Nat)), .int .i64 (q1 : Nat), undef, undef, undef, undef, undef, undef, undef, undef]) (e - PL[x].getD u 0) ⟨0, by omega, rfl, by rw [Int.pow_zero, Int.mul_one]; rfl⟩ ?_
           rintro j5 e' H9 ⟨q1, hqj5, rfl, rfl⟩
           refine s_test ?_
           simp only [o_pure, o_nil, POp.ev, Opd.ev, gv, setD, xsj, xel, binV, ne_eq, xnt, if_false]
           refine Test.split (fun hlt5 => ?_) (fun hlt5 => ?_)
           · have hql : q1 < e - PL[x].getD u 0 := by have := of_decide_eq_true hlt5; omega
             have f8 : IntKind.i64.wrap (wr (((tmC k (degA (-1) p) p[i]).1 * prodP ((axN p L U n).take u) (((tmC k (degA (-1) p) p[i]).2.take n).take u) (PL[x].take u)) * (chs e (PL[x].getD u 0) : Int) * (U.getD u 0 - L.getD u 0) ^ (PL[x].getD u 0) * L.getD u 0 ^ q1) * L.getD u 0) = wr (((tmC k (degA (-1) p) p[i]).1 * prodP ((axN p L U n).take u) (((tmC k (degA (-1) p) p[i]).2.take n).take u) (PL[x].take u)) * (chs e (PL[x].getD u 0) : Int) * (U.getD u 0 - L.getD u 0) ^ (PL[x].getD u 0) * L.getD u 0 ^ (q1 + 1)) := by
               rw [Int.pow_succ, ← Int.mul_assoc]
               exact wr_mul_l _ _
             refine s_skip1 ?_
             simp +decide only [pqn]
             refine s_block1 ?_
             refine s_reg1 ?_
             simp only [o_pure, o_nil, POp.ev, Opd.ev, gv, setD, List.set, xsj, xel, binV, load1V, ne_eq, xnt, if_false, l1, l2, f8]
             simp +decide only [pqn, pbn]
             refine s_reg1 ?_
             simp only [o_pure, o_nil, POp.ev, Opd.ev, gv, setD, List.set, xsj, xel, binV, ne_eq, xnt, if_false, add1 (i := q1) (by omega)]
             simp +decide only [pqn]
             exact Round.mk (j5 - 1) (by omega) ⟨q1 + 1, by omega, rfl, rfl⟩
           · have hqe5 : q1 = e - PL[x].getD u 0 := by have := of_decide_eq_false hlt5; omega
             subst hqe5
             have f9 : ((tmC k (degA (-1) p) p[i]).1 * prodP ((axN p L U n).take u) (((tmC k (degA (-1) p) p[i]).2.take n).take u) (PL[x].take u)) * (chs e (PL[x].getD u 0) : Int) * (U.getD u 0 - L.getD u 0) ^ (PL[x].getD u 0) * L.getD u 0 ^ (e - PL[x].getD u 0) = ((tmC k (degA (-1) p) p[i]).1 * prodP ((axN p L U n).take (u + 1)) (((tmC k (degA (-1) p) p[i]).2.take n).take (u + 1)) (PL[x].take (u + 1))) := by
               rw [hstep]
               unfold prt
               simp only [Int.mul_assoc, Int.mul_comm, Int.mul_left_comm]
             rw [f9]
             refine s_exit1 ?_
             simp +decide only [pqn, pqe, pbn, pbe, reduceIte]
             refine s_reg1 ?_
             simp only [o_pure, o_nil, POp.ev, Opd.ev, gv, setD, List.set, xsj, xel, binV, ne_eq, xnt, if_false, add1 (i := u) (by omega)]
             simp +decide only [pqn]
             exact Round.mk (j3 - 1) (by omega) ⟨u + 1, _, _, _, _, _, _, _, by omega, rfl, rfl⟩
       · have hun : u = n := by simp at hlt3; omega
         subst hun
         refine s_exit1 ?_
         simp +decide only [pqn, pqe, pbn, pbe, reduceIte]
         have t1 : (axN p L U u).take u = axN p L U u := List.take_of_length_le (by rw [axN_length]; exact Nat.le_refl _)
         have t2 : ((tmC k (degA (-1) p) p[i]).2.take u).take u = (tmC k (degA (-1) p) p[i]).2.take u := List.take_of_length_le (by rw [tm_two hn3]; exact Nat.le_refl _)
         have t3 : PL[x].take u = PL[x] := List.take_of_length_le (by rw [hjl]; exact Nat.le_refl _)
         rw [t1, t2, t3]
         obtain ⟨w4, w5⟩ := VecI.at hS.vec (i := x) (by rw [gA_length]; exact hxl)
         rw [gA_at hxl, hgx] at w5
         have f10 := (aF_step (n := u) (k := k) (L := L) (U := U) hip PL[x]).symm
         obtain ⟨cs, hst, hS'⟩ := hS.put (lim := lim) (by omega) (by omega) (i := x) (by rw [gA_length]; exact hxl) (aF u k p L U (i + 1) PL[x])
         rw [← hgx, gA_set hxl] at hS'
         simp only [wr] at f10
         refine s_reg1 ?_
         simp only [o_pure, o_eff, o_nil, POp.ev, Opd.ev, EOp.ev, gv, setD, xsj, xel, binV, load1V, ne_eq, xnt, if_false, w4, w5, f10, hst]
         simp +decide only [pqn, pbn]
         refine s_reg1 ?_
         simp only [o_pure, o_nil, POp.ev, Opd.ev, gv, setD, List.set, xsj, xel, binV, ne_eq, xnt, if_false, add1 (i := x) (by omega)]
         simp +decide only [pqn]
         exact Round.mk (j2 - 1) (by omega) ⟨x + 1, _, _, _, _, _, _, _, _, _, _, _, _, _, by omega, hS', rfl⟩
     · have hxl : x = PL.length := by simp at hlt2; omega
       subst hxl
       have hvv := hS.vec
       rw [gA_next] at hvv
       have hltt := hS.lt
       refine s_exit1 ?_
       simp +decide only [pqn, pqe, pbn, pbe, reduceIte]
       refine s_reg1 ?_
       simp only [o_pure, o_nil, POp.ev, Opd.ev, gv, setD, List.set, xsj, xel, binV, ne_eq, xnt, if_false, add1 (i := i) (by omega)]
       simp +decide only [pqn]
       refine Round.mk (j - 1) (by omega) ⟨i + 1, _, _, _, _, _, _, _, _, _, _, _, _, _, _, _, _, _, _, by omega, hvv, hS.ext, by omega, rfl⟩
   · have hip : i = p.length := by simp at hlt; omega
     subst hip
     refine s_exit1 ?_
     simp +decide only [pqn, pqe, pbe, reduceIte]
     exact ⟨_, _, _, _, _, _, _, _, _, _, _, _, _, _, _, _, _, _, hv, hx, hbl, rfl⟩
 · rintro e' H4 ⟨y10, y11, y12, y13, y14, y15, y16, y17, y28, y29, y30, y31, y32, y33, y34, y35, y36, y37, hv4, hx4, hbl4, rfl⟩
   have hn4 := hx4.next
   have hmk4 := mkslice_int (H := H4) 8 PL.length PL.length [.int .i64 0] (Nat.le_refl _) (by omega) (by omega)
   rw [zerosL_one] at hmk4
   refine s_reg ?_
   simp only [o_pure, o_eff, o_nil, POp.ev, Opd.ev, EOp.ev, gv, setD, List.set, xsj, xel, hal, hmk4]
   have ho := VecI.mk' H4 PL.length
   rw [oG_zero n k p L U PL] at ho
   have hx5 := Ext.alloc H4 (List.replicate PL.length (Value.int .i64 0))
   generalize H4.alloc (List.replicate PL.length (Value.int .i64 0)) = H5 at ho hx5 ⊢
   generalize (Value.slice (some ⟨H4.next, 0, some 0⟩) PL.length PL.length) = ov at ho ⊢
   generalize hb2 : H4.next = b2 at ho
   refine s_assoc (s_reg ?_)
   simp only [o_pure, o_nil, POp.ev, Opd.ev, gv, setD, List.set, xsj, xel, hal]
   refine s_block ?_
   refine s_loop1 (fun j e' H' => ∃ (x : Nat) (y19 y20 y21 y22 y23 y24 y41 y42 y43 y44 y45 : Value), x + j = PL.length ∧ VecI H' b2 ov (oG n k p L U PL x 0) ∧ Ext H4 H' ∧ e' = [s, .int .i64 k, lo, hi, .slice none 0 0, .int .i64 n, dv, .int .i64 (degA (-1) p), all, av, y10, y11, y12, y13, y14, y15, y16, y17, ov, y19, y20, y21, y22, y23, y24, s, .int .i64 p.length, .int .i64 p.length, y28, y29, y30, y31, y32, y33, y34, y35, y36, y37, all, .int .i64 PL.length, .int .i64 x, y41, y42, y43, y44, y45]) PL.length ⟨0, _, _, _, _, _, _, _, _, _, _, _, by omega, ho, hx5, rfl⟩ ?_
   clear ho hx5
   rintro j e' H6 ⟨x, y19, y20, y21, y22, y23, y24, y41, y42, y43, y44, y45, hxj, ho, hx6, rfl⟩
   refine s_test ?_
   simp only [o_pure, o_nil, POp.ev, Opd.ev, gv, setD, xsj, xel, binV, ne_eq, xnt, if_false]
   refine Test.split (fun hlt => ?_) (fun hlt => ?_)
   · have hxl : x < PL.length := by simpa using hlt
     have hjm := List.getElem_mem hxl
     have hgx : PL.getD x [] = PL[x] := by simp [hxl]
     obtain ⟨b3, o3, pi, w2, w3⟩ := hall.atx (i := x) (by rw [List.length_map]; exact hxl)
     simp only [List.getElem_map] at w3
     have hil := hiE _ hjm
     have hib := hbE _ hjm
     refine s_skip1 ?_
     simp +decide only [pqn]
     refine s_block1 ?_
     refine s_reg ?_
     simp only [o_pure, o_nil, POp.ev, Opd.ev, gv, setD, List.set, xsj, xel, load1V, w2, (w3 _ (hx4.trans hx6)).1]
     refine s_reg ?_
     simp only [o_pure, o_nil, POp.ev, Opd.ev, gv, setD, List.set, xsj, xel, hal]
     refine s_block1 ?_
     refine s_loop1 (fun j e' H' => ∃ (y : Nat) (y21 y22 y23 y24 y44 y45 : Value), y + j = PL.length ∧ VecI H' b2 ov (oG n k p L U PL x y) ∧ Ext H4 H' ∧ e' = [s, .int .i64 k, lo, hi, .slice none 0 0, .int .i64 n, dv, .int .i64 (degA (-1) p), all, av, y10, y11, y12, y13, y14, y15, y16, y17, ov, .int .i64 x, pi, y21, y22, y23, y24, s, .int .i64 p.length, .int .i64 p.length, y28, y29, y30, y31, y32, y33, y34, y35, y36, y37, all, .int .i64 PL.length, .int .i64 x, all, .int .i64 PL.length, .int .i64 y, y44, y45]) PL.length ⟨0, _, _, _, _, _, _, by omega, ho, hx6, rfl⟩ ?_
     clear ho hx6
     rintro j2 e' H7 ⟨y, y21, y22, y23, y24, y44, y45, hyj, ho, hx7, rfl⟩
     refine s_test ?_
     simp only [o_pure, o_nil, POp.ev, Opd.ev, gv, setD, xsj, xel, binV, ne_eq, xnt, if_false]
     refine Test.split (fun hlt2 => ?_) (fun hlt2 => ?_)
     · have hyl : y < PL.length := by simpa using hlt2
       have hym := List.getElem_mem hyl
       have hgy : PL.getD y [] = PL[y] := by simp [hyl]
       obtain ⟨b4, o4, pj, v2, v3⟩ := hall.atx (i := y) (by rw [List.length_map]; exact hyl)
       simp only [List.getElem_map] at v3
       have hjl := hiE _ hym
       have hjb := hbE _ hym
       have hav := Vec.ext hv4 hx7
       obtain ⟨a1, a2⟩ := VecI.at hav (i := y) (by rw [gA_length]; exact hyl)
       rw [gA_zero hyl, hgy] at a2
       refine s_skip1 ?_
       simp +decide only [pqn]
       refine s_block1 ?_
       refine s_reg ?_
       simp only [o_pure, o_nil, POp.ev, Opd.ev, gv, setD, List.set, xsj, xel, load1V, v2, (v3 _ (hx4.trans hx7)).1]
       refine s_reg ?_
       simp only [o_pure, o_nil, POp.ev, Opd.ev, gv, setD, List.set, xsj, xel, load1V, a1, a2]
       refine s_assoc (s_reg ?_)
       simp only [o_pure, o_nil, POp.ev, Opd.ev, gv, setD, List.set, xsj, xel]
       refine s_block ?_
       have ha0 : aF n k p L U p.length PL[y] = wr (aF n k p L U p.length PL[y]) := (wr_wr _).symm
       refine s_loop1 (fun j e' H' => ∃ (u : Nat) (y24 : Value), u + j = n ∧ H' = H7 ∧ e' = [s, .int .i64 k, lo, hi, .slice none 0 0, .int .i64 n, dv, .int .i64 (degA (-1) p), all, av, y10, y11, y12, y13, y14, y15, y16, y17, ov, .int .i64 x, pi, .int .i64 y, pj, .int .i64 (wr (aF n k p L U p.length PL[y] * prodW ((axN p L U n).take u) (PL[x].take u) (PL[y].take u))), y24, s, .int .i64 p.length, .int .i64 p.length, y28, y29, y30, y31, y32, y33, y34, y35, y36, y37, all, .int .i64 PL.length, .int .i64 x, all, .int .i64 PL.length, .int .i64 y, .int .i64 n, .int .i64 u]) n ⟨0, y24, by omega, rfl, by simp only [List.take_zero, prodW, Int.mul_one, ← ha0]; rfl⟩ ?_
       rintro j3 e' H7 ⟨u, y24, huj, rfl, rfl⟩
       refine s_test ?_
       simp only [o_pure, o_nil, POp.ev, Opd.ev, gv, setD, xsj, xel, binV, ne_eq, xnt, if_false]
       refine Test.split (fun hlt3 => ?_) (fun hlt3 => ?_)
       · have hun : u < n := by have := of_decide_eq_true hlt3; omega
         have hax : u < (axN p L U n).length := by rw [axN_length]; exact hun
         have hstep := prodW_take (axN p L U n) PL[x] PL[y] u hax (by rw [axN_length]; exact hil) (by rw [axN_length]; exact hjl)
         rw [axN_get hax] at hstep
         have hdx : (axI p L U u).d = dgI p u := rfl
         rw [hdx] at hstep
         have hx24 := hx4.trans hx7
         obtain ⟨c1, d1, k1, k2⟩ := zl_at (SlI.ext hdv2 hx24) (i := u) (by omega)
         rw [hdg u hun] at k2
         obtain ⟨c2, d2, k3, k4⟩ := zl_at ((w3 _ hx24).2) (i := u) (by omega)
         obtain ⟨c3, d3, k5, k6⟩ := zl_at ((v3 _ hx24).2) (i := u) (by omega)
         have hd4 := hd u
         have hi2 := hib u hun
         have hj2 := hjb u hun
         obtain ⟨q1, q2⟩ := wgtI_code ⟨dgI p u, by omega⟩ ⟨PL[x].getD u 0, by omega⟩ ⟨PL[y].getD u 0, by omega⟩ hi2.1 hj2.1
         simp only [wr] at q1 q2
         have q1' : ¬ ((chs (dgI p u) (PL[y].getD u 0) : Int) = 0) := by omega
         have f1 : IntKind.i64.wrap (wr (aF n k p L U p.length PL[y] * prodW ((axN p L U n).take u) (PL[x].take u) (PL[y].take u)) * wgt (dgI p u) (PL[x].getD u 0) (PL[y].getD u 0)) = wr (aF n k p L U p.length PL[y] * prodW ((axN p L U n).take (u + 1)) (PL[x].take (u + 1)) (PL[y].take (u + 1))) := by
           rw [hstep, ← Int.mul_assoc]
           exact wr_mul_l _ _
         refine s_skip1 ?_
         simp +decide only [pqn]
         refine s_block1 ?_
         refine s_reg ?_
         simp only [o_pure, o_nil, POp.ev, Opd.ev, gv, setD, List.set, xsj, xel]
         refine s_reg1 ?_
         simp only [o_pure, o_callN, POp.ev, Opd.ev, gv, setD, List.map, xsj, xel, load1V, k1, k2, k3, k4, k5, k6]
         refine (multiple_ok _ (dgI p u) H7 hd4).use ?_
         rintro _ HH ⟨rfl, hh⟩ _
         subst HH
         simp only [o_cont, o_callN, Opd.ev, gv, setD, List.map]
         refine (iChoose_ok _ (dgI p u) (PL[y].getD u 0) H7 hd4 (by omega)).use ?_
         rintro _ HH ⟨rfl, hh⟩ _
         subst HH
         simp only [o_cont, o_pure, o_callF, POp.ev, Opd.ev, gv, setD, List.map, xsj, xel, binV, ne_eq, xnt, if_false, q1']
         refine (iChoose_ok _ (PL[x].getD u 0) (PL[y].getD u 0) H7 (by omega) (by omega)).eq ?_
         simp only [o_cont, o_pure, o_nil, POp.ev, Opd.ev, gv, setD, List.set, xsj, xel, binV, ne_eq, xnt, if_false, q2, f1]
         simp +decide only [pqn, pbn]
         refine s_reg1 ?_
         simp only [o_pure, o_nil, POp.ev, Opd.ev, gv, setD, List.set, xsj, xel, binV, ne_eq, xnt, if_false, add1 (i := u) (by omega)]
         simp +decide only [pqn]
         exact Round.mk (j3 - 1) (by omega) ⟨u + 1, _, by omega, rfl, rfl⟩
       · have hun : u = n := by have := of_decide_eq_false hlt3; omega
         subst hun
         refine s_exit1 ?_
         simp +decide only [pqn, pqe, pbn, pbe, reduceIte]
         have t1 : (axN p L U u).take u = axN p L U u := List.take_of_length_le (by rw [axN_length]; exact Nat.le_refl _)
         have t2 : PL[x].take u = PL[x] := List.take_of_length_le (by rw [hil]; exact Nat.le_refl _)
         have t3 : PL[y].take u = PL[y] := List.take_of_length_le (by rw [hjl]; exact Nat.le_refl _)
         rw [t1, t2, t3]
         obtain ⟨w4, w5⟩ := VecI.at ho (i := x) (by rw [oG_length]; exact hxl)
         rw [oG_at hxl, hgx] at w5
         have f10 := (oF_step (n := u) (k := k) (p := p) (L := L) (U := U) PL[x] PL[y] (PL.take y)).symm
         rw [← List.take_succ_eq_append_getElem hyl] at f10
         obtain ⟨cs, hst, ho'⟩ := VecI.put (lim := lim) ho (by omega) (i := x) (by rw [oG_length]; exact hxl) (oF u k p L U PL[x] (PL.take (y + 1)))
         rw [← hgx, oG_set hxl] at ho'
         simp only [wr] at f10
         refine s_reg1 ?_
         simp only [o_pure, o_eff, o_nil, POp.ev, Opd.ev, EOp.ev, gv, setD, xsj, xel, binV, load1V, ne_eq, xnt, if_false, w4, w5, f10, hst]
         simp +decide only [pqn, pbn]
         refine s_reg1 ?_
         simp only [o_pure, o_nil, POp.ev, Opd.ev, gv, setD, List.set, xsj, xel, binV, ne_eq, xnt, if_false, add1 (i := y) (by omega)]
         simp +decide only [pqn]
         exact Round.mk (j2 - 1) (by omega) ⟨y + 1, _, _, _, _, _, _, by omega, ho', Chg.ext hx7 (Chg.put _ _ _) (by omega), rfl⟩
     · have hyl : y = PL.length := by simp at hlt2; omega
       subst hyl
       rw [oG_next] at ho
       refine s_exit1 ?_
       simp +decide only [pqn, pqe, pbn, pbe, reduceIte]
       refine s_reg1 ?_
       simp only [o_pure, o_nil, POp.ev, Opd.ev, gv, setD, List.set, xsj, xel, binV, ne_eq, xnt, if_false, add1 (i := x) (by omega)]
       simp +decide only [pqn]
       exact Round.mk (j - 1) (by omega) ⟨x + 1, _, _, _, _, _, _, _, _, _, _, _, by omega, ho, hx7, rfl⟩
   · have hxl : x = PL.length := by simp at hlt; omega
     subst hxl
     rw [oG_all _ hFin] at ho
     refine s_exit1 ?_
     simp +decide only [pqn, pqe, pbe, reduceIte]
     refine s_reg ?_
     simp only [o_pure, o_nil, POp.ev, Opd.ev, gv, setD, List.set, xsj, xel]
     refine s_ret1 ?_
     simp +decide only [pfr, resV, resOne, gv, xsj, xel]
     exact ⟨b2, ho, hx12.trans (hx4.trans hx6)⟩
theorem bernList_sign {k n : Nat} {p : List Tm} {L U : List Int} (hc : Crs k n L U) (hg : goodP p = true) (hf : fromB n p = true) :
   sg ((placesL ((axN p L U n).map (·.d))).map fun is => wr (coef (termsN n k p) (axN p L U n) is)) = sgn3A k p L U := by
 obtain ⟨g1, g2, g3⟩ := goodP_ok hg
 have hb : ∀ t ∈ p, 0 ≤ t.x ∧ t.x ≤ 4 ∧ 0 ≤ t.y ∧ t.y ≤ 4 ∧ 0 ≤ t.z ∧ t.z ≤ 4 := fun t ht => (g1 t ht).2
 have hd := dgI_le hb
 have hPN := places_N (k := k) hc.n1 hc.n3 hc.hL hc.hU hf hb
 unfold sgn3A
 rw [hPN]
 congr 1
 refine List.map_congr_left fun is his => ?_
 have hm : coef (termsN n k p) (axN p L U n) is ∈ (placesL ([axI p L U 0, axI p L U 1, axI p L U 2].map (·.d))).map (coef (terms3 k p) [axI p L U 0, axI p L U 1, axI p L U 2]) := by
   rw [hPN]
   exact List.mem_map.2 ⟨is, his, rfl⟩
 obtain ⟨js, hjs, he⟩ := List.mem_map.1 hm
 obtain ⟨j1, j2⟩ := mem_placesL.1 hjs
 match js, j1 with
 | [x, y, z], _ =>
   have a1 := j2 0 x (axI p L U 0).d rfl rfl
   have a2 := j2 1 y (axI p L U 1).d rfl rfl
   have a3 := j2 2 z (axI p L U 2).d rfl rfl
   rw [← he]
   exact coef_wr hc.hk g2 (fun t ht => (g1 t ht).1) g3 (hc.ax 0 _ (hd 0)) (hc.ax 1 _ (hd 1)) (hc.ax 2 _ (hd 2)) a1 a2 a3
theorem placesL_ne (ms : List Nat) : placesL ms ≠ [] := by
 induction ms with
 | nil => simp [placesL]
 | cons m ms ih =>
   intro h
   obtain ⟨l, hl⟩ := List.exists_mem_of_ne_nil _ ih
   have : (0 :: l) ∈ placesL (m :: ms) := by
     simp only [placesL, List.mem_flatMap, List.mem_map, List.mem_range]
     exact ⟨0, by omega, l, hl, rfl⟩
   rw [h] at this
   simp at this
theorem min_ok (lim : Nat) (s : Value) (A : List Int) (H : AHeap) (hs : SlI H s A) (hne : A ≠ []) (hn : A.length ≤ 1000000) :
   ACalls Tryz.prog lim n_slices_Min_S_int_int [s] H fun v H' => (∃ m, v = .int .i64 m ∧ m ∈ A ∧ ∀ x ∈ A, m ≤ x) ∧ H' = H := by
 refine is_slices_Min_S_int_int.go rfl ?_
 unfold c_slices_Min_S_int_int
 have hpos : 0 < A.length := List.length_pos_iff.2 hne
 obtain ⟨b0, o0, u0, _, u0c⟩ := hs.get hpos
 have u0' : iadV 1 s (.int .i64 0) = some (.pointer (some ⟨b0, o0, none⟩)) := u0
 have d1 : decide ((A.length : Int) < 1) = false := by simp; omega
 refine s_reg ?_
 simp only [o_pure, o_nil, POp.ev, Opd.ev, env0, gu, setD, List.set, xsj, xel]
 refine s_test ?_
 simp only [o_pure, o_nil, POp.ev, Opd.ev, gv, setD, xsj, xel, binV, ne_eq, xnt, if_false, hs.lenV, d1]
 refine Test.false_ (s_skip1 ?_)
 simp +decide only [pqn]
 refine s_reg ?_
 simp only [o_pure, o_nil, POp.ev, Opd.ev, gv, setD, List.set, xsj, xel, load1V, u0', u0c]
 refine s_assoc (s_reg ?_)
 simp only [o_pure, o_nil, POp.ev, Opd.ev, setD, List.set, xsj, xel]
 refine s_block ?_
 refine s_loop1 (fun j e' H' => ∃ (i : Nat) (m : Int), i + j = A.length ∧ m ∈ A ∧ (∀ x ∈ A.take i, m ≤ x) ∧ H' = H ∧ e' = [s, .int .i64 0, .int .i64 m, .int .i64 i]) (A.length - 1) ⟨1, A[0], by omega, List.getElem_mem hpos, ?_, rfl, rfl⟩ ?_
 · intro x hx
   rw [show (1 : Nat) = 0 + 1 from rfl, List.take_succ_eq_append_getElem hpos] at hx
   simp at hx
   omega
 rintro j e' H ⟨i, m, hij, hm, hall, rfl, rfl⟩
 refine s_test ?_
 simp only [o_pure, o_nil, POp.ev, Opd.ev, gv, setD, xsj, xel, binV, ne_eq, xnt, if_false, hs.lenV]
 refine Test.split (fun hlt => ?_) (fun hlt => ?_)
 · have hlt' : i < A.length := by simpa using hlt
   obtain ⟨b1, o1, w, _, wc⟩ := hs.get hlt'
   refine s_skip1 ?_
   simp +decide only [pqn]
   refine s_block1 ?_
   refine s_reg1 ?_
   simp only [o_pure, o_nil, POp.ev, Opd.ev, gv, setD, List.set, xsj, xel, load1V, min2V, w, wc]
   simp +decide only [pqn, pbn]
   refine s_reg1 ?_
   simp only [o_pure, o_nil, POp.ev, Opd.ev, gv, setD, List.set, xsj, xel, binV, ne_eq, xnt, if_false, add1 (i := i) (by omega)]
   simp +decide only [pqn]
   refine Round.mk (j - 1) (by omega) ⟨i + 1, _, by omega, ?_, ?_, rfl, rfl⟩
   · split
     · exact List.getElem_mem hlt'
     · exact hm
   · intro x hx
     rw [List.take_succ_eq_append_getElem hlt'] at hx
     rcases List.mem_append.1 hx with h | h
     · have := hall x h
       split <;> omega
     · rw [List.mem_singleton.1 h]
       split <;> omega
 · have hge : A.length ≤ i := by simp at hlt; omega
   rw [List.take_of_length_le hge] at hall
   refine s_exit1 ?_
   simp +decide only [pqn, pqe, pbe, reduceIte]
   refine s_reg ?_
   simp only [o_pure, o_nil, POp.ev, Opd.ev, gv, setD, List.set, xsj, xel]
   refine s_ret1 ?_
   simp +decide only [pfr, resV, resOne, gv, xsj, xel]
   exact ⟨⟨m, rfl, hm, hall⟩, trivial⟩
theorem max_ok (lim : Nat) (s : Value) (A : List Int) (H : AHeap) (hs : SlI H s A) (hne : A ≠ []) (hn : A.length ≤ 1000000) :
   ACalls Tryz.prog lim n_slices_Max_S_int_int [s] H fun v H' => (∃ m, v = .int .i64 m ∧ m ∈ A ∧ ∀ x ∈ A, x ≤ m) ∧ H' = H := by
 refine is_slices_Max_S_int_int.go rfl ?_
 unfold c_slices_Max_S_int_int
 have hpos : 0 < A.length := List.length_pos_iff.2 hne
 obtain ⟨b0, o0, u0, _, u0c⟩ := hs.get hpos
 have u0' : iadV 1 s (.int .i64 0) = some (.pointer (some ⟨b0, o0, none⟩)) := u0
 have d1 : decide ((A.length : Int) < 1) = false := by simp; omega
 refine s_reg ?_
 simp only [o_pure, o_nil, POp.ev, Opd.ev, env0, gu, setD, List.set, xsj, xel]
 refine s_test ?_
 simp only [o_pure, o_nil, POp.ev, Opd.ev, gv, setD, xsj, xel, binV, ne_eq, xnt, if_false, hs.lenV, d1]
 refine Test.false_ (s_skip1 ?_)
 simp +decide only [pqn]
 refine s_reg ?_
 simp only [o_pure, o_nil, POp.ev, Opd.ev, gv, setD, List.set, xsj, xel, load1V, u0', u0c]
 refine s_assoc (s_reg ?_)
 simp only [o_pure, o_nil, POp.ev, Opd.ev, setD, List.set, xsj, xel]
 refine s_block ?_
 refine s_loop1 (fun j e' H' => ∃ (i : Nat) (m : Int), i + j = A.length ∧ m ∈ A ∧ (∀ x ∈ A.take i, x ≤ m) ∧ H' = H ∧ e' = [s, .int .i64 0, .int .i64 m, .int .i64 i]) (A.length - 1) ⟨1, A[0], by omega, List.getElem_mem hpos, ?_, rfl, rfl⟩ ?_
 · intro x hx
   rw [show (1 : Nat) = 0 + 1 from rfl, List.take_succ_eq_append_getElem hpos] at hx
   simp at hx
   omega
 rintro j e' H ⟨i, m, hij, hm, hall, rfl, rfl⟩
 refine s_test ?_
 simp only [o_pure, o_nil, POp.ev, Opd.ev, gv, setD, xsj, xel, binV, ne_eq, xnt, if_false, hs.lenV]
 refine Test.split (fun hlt => ?_) (fun hlt => ?_)
 · have hlt' : i < A.length := by simpa using hlt
   obtain ⟨b1, o1, w, _, wc⟩ := hs.get hlt'
   refine s_skip1 ?_
   simp +decide only [pqn]
   refine s_block1 ?_
   refine s_reg1 ?_
   simp only [o_pure, o_nil, POp.ev, Opd.ev, gv, setD, List.set, xsj, xel, load1V, max2V, w, wc]
   simp +decide only [pqn, pbn]
   refine s_reg1 ?_
   simp only [o_pure, o_nil, POp.ev, Opd.ev, gv, setD, List.set, xsj, xel, binV, ne_eq, xnt, if_false, add1 (i := i) (by omega)]
   simp +decide only [pqn]
   refine Round.mk (j - 1) (by omega) ⟨i + 1, _, by omega, ?_, ?_, rfl, rfl⟩
   · split
     · exact List.getElem_mem hlt'
     · exact hm
   · intro x hx
     rw [List.take_succ_eq_append_getElem hlt'] at hx
     rcases List.mem_append.1 hx with h | h
     · have := hall x h
       split <;> omega
     · rw [List.mem_singleton.1 h]
       split <;> omega
 · have hge : A.length ≤ i := by simp at hlt; omega
   rw [List.take_of_length_le hge] at hall
   refine s_exit1 ?_
   simp +decide only [pqn, pqe, pbe, reduceIte]
   refine s_reg ?_
   simp only [o_pure, o_nil, POp.ev, Opd.ev, gv, setD, List.set, xsj, xel]
   refine s_ret1 ?_
   simp +decide only [pfr, resV, resOne, gv, xsj, xel]
   exact ⟨⟨m, rfl, hm, hall⟩, trivial⟩
theorem commonSign_ok (lim : Nat) (s : Value) (A : List Int) (H : AHeap) (hs : SlI H s A) (hne : A ≠ []) (hn : A.length ≤ 1000000) :
   ACalls Tryz.prog lim n_impl_commonSign [s] H fun v H' => v = .int .i64 (sg A) ∧ H' = H := by
 refine is_impl_commonSign.go rfl ?_
 unfold c_impl_commonSign
 refine s_reg ?_
 simp only [o_pure, o_nil, POp.ev, Opd.ev, env0, gu, setD, List.set, xsj, xel]
 refine s_block ?_
 refine s_test1 ?_
 simp only [o_pure, o_callF, POp.ev, Opd.ev, gv, setD, List.map, xsj, xel]
 refine (min_ok _ s A H hs hne hn).mono ?_
 rintro _ H' ⟨⟨m, rfl, hm, hmn⟩, rfl⟩
 simp only [o_cont, o_pure, o_nil, POp.ev, Opd.ev, gv, setD, xsj, xel, binV, ne_eq, xnt, if_false]
 refine Test.split (fun h => ?_) (fun h => ?_)
 · have h' : 0 < m := by simpa using h
   refine s_reg ?_
   simp only [o_pure, o_nil, POp.ev, Opd.ev, setD, List.set, xsj, xel]
   refine s_ret1 ?_
   simp +decide only [pqr, pbr, pfr, resV, resOne, gv, xsj, xel]
   unfold sg
   rw [if_pos (fun v hv => by have := hmn v hv; omega)]
   exact ⟨rfl, trivial⟩
 · have h' : ¬ 0 < m := by simpa using h
   have c1 : ¬ ∀ v ∈ A, 0 < v := fun hh => h' (hh m hm)
   refine s_test1 ?_
   simp only [o_pure, o_callF, POp.ev, Opd.ev, gv, setD, List.map, xsj, xel]
   refine (max_ok _ s A H' hs hne hn).mono ?_
   rintro _ H2 ⟨⟨M, rfl, hM, hmx⟩, rfl⟩
   simp only [o_cont, o_pure, o_nil, POp.ev, Opd.ev, gv, setD, xsj, xel, binV, ne_eq, xnt, if_false]
   refine Test.split (fun h2 => ?_) (fun h2 => ?_)
   · have h2' : M < 0 := by simpa using h2
     refine s_reg ?_
     simp only [o_pure, o_nil, POp.ev, Opd.ev, setD, List.set, xsj, xel]
     refine s_ret1 ?_
     simp +decide only [pqr, pbr, pfr, resV, resOne, gv, xsj, xel]
     unfold sg
     rw [if_neg c1, if_pos (fun v hv => by have := hmx v hv; omega)]
     exact ⟨rfl, trivial⟩
   · have h2' : ¬ M < 0 := by simpa using h2
     refine s_skip1 ?_
     simp +decide only [pqn, pbn]
     refine s_reg ?_
     simp only [o_pure, o_nil, POp.ev, Opd.ev, setD, List.set, xsj, xel]
     refine s_ret1 ?_
     simp +decide only [pfr, resV, resOne, gv, xsj, xel]
     unfold sg
     rw [if_neg c1, if_neg (fun hh => h2' (hh M hM))]
     exact ⟨rfl, trivial⟩
theorem Ints.BoxP.ext {H H' : AHeap} {q : Nat} {k : Int} {s t : Value} {low high : List Int} (h : BoxP H q k s t low high) (hq : q < H.next) (hx : Ext H H') : BoxP H' q k s t low high :=
 ⟨by rw [hx.blk _ hq]; exact h.blk, SlI.ext h.low hx, SlI.ext h.high hx⟩
def overB (ss : List (List Tm)) (k : Int) (L U : List Int) : Bool := goodSS ss && goodB k L U && ((ss.length : Int) == (L.length : Int))
theorem systemOver_ok (lim : Nat) (s bl bu : Value) (ss : List (List Tm)) (k : Int) (L U : List Int) (q : Nat) (H : AHeap) (hl : lim ≤ H.next) (hs : SlSS H s ss) (hv : BoxP H q k bl bu L U) (hq : q < H.next) (hn : ss.length ≤ 1000000) (hn2 : ∀ p ∈ ss, p.length ≤ 1000000) (hL : L.length ≤ 1000000) (hU : U.length ≤ 1000000) :
   ACalls Tryz.prog lim n_impl_systemOver [s, .pointer (some ⟨q, 0, none⟩)] H fun v H' => v = .bool (overB ss k L U) ∧ Ext H H' := by
 refine is_impl_systemOver.go rfl ?_
 unfold c_impl_systemOver
 refine s_reg ?_
 simp only [o_pure, o_nil, POp.ev, Opd.ev, env0, gu, setD, List.set, xsj, xel]
 refine s_reg ?_
 simp only [o_pure, o_callF, POp.ev, Opd.ev, gv, setD, List.map, xsj, xel]
 refine (isSystem_ok lim s ss H (by omega) hs hn hn2).mono ?_
 rintro _ H2 ⟨rfl, hx2⟩
 have hn2' := hx2.next
 unfold overB
 cases h1 : goodSS ss
 · simp only [o_cont, o_pure, o_guard, gk_ft, o_nil, POp.ev, Opd.ev, gv, setD, List.set, xsj, xel, pickV]
   refine s_ret1 ?_
   simp +decide only [pfr, resV, resOne, gv, xsj, xel]
   exact ⟨by simp, hx2⟩
 simp only [o_cont, o_pure, o_callF, o_guard, gk_tt, POp.ev, Opd.ev, gv, setD, List.map, xsj, xel]
 have hv2 := hv.ext hq hx2
 refine (isBox_ok lim hv2 (by omega) (by omega)).eq ?_
 cases h2 : goodB k L U
 · simp only [o_cont, o_pure, o_guard, gk_ft, o_nil, POp.ev, Opd.ev, gv, setD, List.set, xsj, xel, pickV]
   refine s_ret1 ?_
   simp +decide only [pfr, resV, resOne, gv, xsj, xel]
   exact ⟨by simp, hx2⟩
 simp only [o_cont, o_pure, o_guard, gk_tt, o_nil, POp.ev, Opd.ev, gv, setD, List.set, xsj, xel, pickV, binV, load1V, nilchkV, fadV, ne_eq, xnt, if_false, xgz, xgs, Nat.zero_add, cell_blk hv2.blk, hs.lenV, hv.low.lenV]
 refine s_ret1 ?_
 simp +decide only [pfr, resV, resOne, gv, xsj, xel]
 exact ⟨by simp, hx2⟩
theorem ask_over (ss : List (List Tm)) (k : Int) (L U : List Int) : askB ss k L U = (overB ss k L U && decide (k ≤ 4)) := by
 unfold askB overB
 cases goodSS ss <;> cases goodB k L U <;> cases decide (k ≤ 4) <;> simp
def ordR (n : Nat) : Nat → List Nat → List (List Nat)
 | 0, b => [b]
 | f + 1, b => (List.range n).flatMap fun k => if k ∈ b then [] else ordR n f (b ++ [k])
def ordI2 (n : Nat) : Nat → List (List Nat)
 | 0 => [[]]
 | i + 1 => (ordI2 n i).flatMap fun l => (List.range n).flatMap fun k => if k ∈ l then [] else [l ++ [k]]
def ords (n : Nat) : List (List Nat) := ordI2 n n
theorem ords_same : ∀ n : Fin 4, ordR n.val n.val [] = ords n.val := by decide
theorem ords_in : ∀ n : Fin 4, ∀ o ∈ ords n.val, o.length = n.val ∧ ∀ x ∈ o, x < n.val := by decide
theorem ords_len : ∀ n : Fin 4, (ords n.val).length ≤ 6 := by decide
theorem ordR_bound (n : Nat) : ∀ (f : Nat) (b : List Nat), (ordR n f b).length ≤ n ^ f
 | 0, b => by simp [ordR]
 | f + 1, b => by
   rw [ordR, List.length_flatMap]
   have h : ∀ l : List Nat, (l.map fun k => (if k ∈ b then [] else ordR n f (b ++ [k])).length).sum ≤ l.length * n ^ f := by
     intro l
     induction l with
     | nil => simp
     | cons k l ih =>
       rw [List.map_cons, List.sum_cons, List.length_cons, Nat.succ_mul]
       have : (if k ∈ b then [] else ordR n f (b ++ [k])).length ≤ n ^ f := by
         split
         · simp
         · exact ordR_bound n f _
       omega
   have := h (List.range n)
   rw [List.length_range] at this
   rw [Nat.pow_succ, Nat.mul_comm]
   exact this
theorem zl_any (l : List Nat) (k : Nat) : ((zl l).any (· == (k : Int))) = decide (k ∈ l) := by
 induction l with
 | nil => simp [zl]
 | cons a l ih =>
   have e : zl (a :: l) = (a : Int) :: zl l := rfl
   rw [e, List.any_cons, ih]
   by_cases h : a = k
   · subst h; simp
   · have h1 : ((a : Int) == (k : Int)) = false := by simp; omega
     rw [h1]
     simp [Ne.symm h]
theorem GrowK.ext {H H' : AHeap} {lo b : Nat} {vs : List Value} {bs : List Nat} {v : Value} {ss : List (List Int)} (h : GrowK H lo b vs bs v ss) (hx : Ext H H') : GrowK H' lo b vs bs v ss := by
 obtain ⟨h1, h2, h3, h4, h5, h6, h7, h8, h9⟩ := h
 have := hx.next
 refine ⟨Vec.ext h1 hx, h2, h3, h4, fun e => by have := h5 e; omega, h6, h7, fun c hc => by have := h8 c hc; omega, fun i p hp => ?_⟩
 obtain ⟨s, c, g1, g2, g3⟩ := h9 i p hp
 exact ⟨s, c, g1, g2, Vec.ext g3 hx⟩
theorem append_none {lim : Nat} {H H' : AHeap} {b bytes sz n : Nat} {v w : Value} {cells xs : List Value} (h : Vec H b v n sz cells) (hw : Sl H' w 0 sz xs) : appendH lim H sz bytes v w = some (v, H) := by
 obtain ⟨_, a, c, rfl, _⟩ := hw
 rcases h with ⟨rfl, _⟩ | ⟨c', sp, rest, rfl, _⟩ <;> simp [appendH]
theorem GrowK.base {H H2 : AHeap} {lo b : Nat} {vs : List Value} {bs : List Nat} {v : Value} {ss : List (List Int)} (h : GrowK H lo b vs bs v ss) (hloH : lo ≤ H.next) (hx : Ext H H2) :
   ∃ b0, Vec H2 b0 v ss.length 1 vs ∧ lo ≤ b0 ∧ b0 ∉ bs ∧ (ss ≠ [] ∧ b0 = b ∧ b0 < H.next ∨ ss = [] ∧ H2.next < b0) := by
 obtain ⟨h1, h2, hnil, h3, h4, h5, h6, h7, h8⟩ := h
 have hnx := hx.next
 by_cases hs : ss = []
 · subst hs
   have hv := hnil rfl
   subst hv
   have hvs : vs = [] := List.length_eq_zero_iff.1 (by simpa using h1.clen)
   subst hvs
   refine ⟨H2.next + 1, Vec.nil _ _ _, by omega, fun hm => ?_, .inr ⟨rfl, by omega⟩⟩
   have := h7 _ hm
   omega
 · exact ⟨b, h1.ext hx, h3, h6, .inl ⟨hs, rfl, h4 hs⟩⟩
theorem GrowK.appendK {lim : Nat} {H0 H H2 : AHeap} {lo b : Nat} {vs : List Value} {bs : List Nat} {v w : Value} {ss ss2 : List (List Int)} (h : GrowK H lo b vs bs v ss) (hlim : lim ≤ lo) (hx0 : Ext H0 H) (hlo : H0.next ≤ lo) (hloH : lo ≤ H.next) (hx : Ext H H2)
   (hw : OwnKK H2 H.next H2.next w ss2) (hn : ss.length + ss2.length ≤ 1000000) :
   ∃ v' H3 b' vs' bs', appendH lim H2 1 24 v w = some (v', H3) ∧ GrowK H3 lo b' vs' bs' v' (ss ++ ss2) ∧ Ext H0 H3 := by
 have hnx := hx.next
 by_cases hs2 : ss2 = []
 · subst hs2
   obtain ⟨ws, hsl, _⟩ := hw.slss
   refine ⟨v, H2, b, vs, bs, append_none (Vec.ext h.vec hx) hsl, ?_, hx0.trans hx⟩
   rw [List.append_nil]
   exact h.ext hx
 rcases hw with ⟨_, e⟩ | ⟨b2, vs2, bs2, k1, k2, k3, k4, k5, k6, k7⟩
 · exact absurd e hs2
 obtain ⟨b0, hv0, hb0, hb0n, hb0r⟩ := h.base hloH hx
 obtain ⟨h1, h2, hnil, h3, h4, h5, h6, h7, h8⟩ := h
 have hclen := h1.clen
 obtain ⟨v', H3, b', g1, g2, g3, g4, g5⟩ := hv0.append (lim := lim) (by omega) k1.sl (by decide) (bytes := 24) (by omega)
 have hpos : ss2.length ≠ 0 := fun e => hs2 (List.length_eq_zero_iff.1 e)
 have hb3 : b' < H3.next := (g2.blk (by omega)).elim fun _ h => h.2
 have hgn := g4.next
 refine ⟨v', H3, b', vs ++ vs2, bs ++ bs2, g1, ⟨by rw [List.length_append]; exact g2, by simp [h2, k2], fun e => absurd (List.append_eq_nil_iff.1 e).2 hs2, by omega, fun _ => hb3, ?_, ?_, ?_, ?_⟩, Chg.ext (hx0.trans hx) g4 (by omega)⟩
 · refine List.nodup_append.2 ⟨h5, k4, ?_⟩
   intro x hx' y hy
   have := h7 x hx'
   have := k6 y hy
   omega
 · intro hm
   rcases List.mem_append.1 hm with hm | hm
   · rcases g3 with rfl | ⟨rfl, _⟩
     · exact hb0n hm
     · have := h7 _ hm; omega
   · have := k6 _ hm
     rcases g3 with rfl | ⟨rfl, _⟩ <;> omega
 · intro c' hc'
   rcases List.mem_append.1 hc' with hm | hm
   · have := h7 _ hm; omega
   · have := k6 _ hm; omega
 · intro j q hq
   by_cases hj : j < ss.length
   · rw [List.getElem?_append_left hj] at hq
     obtain ⟨s', c', q1, q2, q3⟩ := h8 j q hq
     have hm := List.mem_of_getElem? q2
     refine ⟨s', c', by rw [List.getElem?_append_left (by omega)]; exact q1, by rw [List.getElem?_append_left (by omega)]; exact q2, Vec.chg (Vec.ext q3 hx) g4 (fun e => hb0n (e ▸ hm))⟩
   · rw [List.getElem?_append_right (by omega)] at hq
     obtain ⟨s', c', q1, q2, q3⟩ := k7 _ q hq
     have hm := k6 _ (List.mem_of_getElem? q2)
     have e1 : j - vs.length = j - ss.length := by omega
     have e2 : j - bs.length = j - ss.length := by omega
     exact ⟨s', c', by rw [List.getElem?_append_right (by omega), e1]; exact q1, by rw [List.getElem?_append_right (by omega), e2]; exact q2, Vec.chg q3 g4 (by omega)⟩
theorem GrowK.pushOld {lim : Nat} {H0 H : AHeap} {lo b c : Nat} {vs : List Value} {bs : List Nat} {v s : Value} {ss : List (List Int)} {p : List Int} (h : GrowK H lo b vs bs v ss) (hlim : lim ≤ lo) (hx0 : Ext H0 H) (hlo : H0.next ≤ lo) (hloH : lo ≤ H.next)
   (hc1 : lo ≤ c) (hc2 : c < H.next) (hcb : ss ≠ [] → c ≠ b) (hcn : c ∉ bs) (hp : VecI H c s p) (hn : ss.length ≤ 1000000) :
   ∃ v' H3 b', appendH lim (H.alloc [s]) 1 24 v (.slice (some ⟨H.next, 0, some 0⟩) 1 1) = some (v', H3) ∧ GrowK H3 lo b' (vs ++ [s]) (bs ++ [c]) v' (ss ++ [p]) ∧ Ext H0 H3 ∧ H.next ≤ H3.next ∧ (∀ x, x < H.next → (ss ≠ [] → x ≠ b) → H3.blk x = H.blk x) ∧ (ss ≠ [] ∧ b' = b ∨ H.next < b') := by
 obtain ⟨b0, hv0, hb0, hb0n, hb0r⟩ := h.base hloH (Ext.refl H)
 obtain ⟨h1, h2, hnil, h3, h4, h5, h6, h7, h8⟩ := h
 have hclen := h1.clen
 obtain ⟨v', H3, b', g1, g2, g3, g4, g5, g6⟩ := push1 hv0 (lim := lim) s (by omega) (bytes := 24) (by omega)
 have hcb0 : c ≠ b0 := by
   rcases hb0r with ⟨e, rfl, _⟩ | ⟨_, e⟩
   · exact hcb e
   · omega
 refine ⟨v', H3, b', g1, ⟨by rw [List.length_append]; exact g2, by simp [h2], by simp, by omega, fun _ => g4, ?_, ?_, ?_, ?_⟩, Chg.ext hx0 g5 (by omega), by omega, ?_, ?_⟩
 · refine List.nodup_append.2 ⟨h5, by simp, ?_⟩
   intro x hx' y hy
   simp at hy
   subst hy
   intro e
   exact hcn (e ▸ hx')
 · intro hm
   rcases List.mem_append.1 hm with hm | hm
   · rcases g3 with rfl | g3
     · exact hb0n hm
     · have := h7 _ hm; omega
   · simp at hm
     rcases g3 with rfl | g3
     · exact hcb0 hm.symm
     · omega
 · intro c' hc'
   rcases List.mem_append.1 hc' with hm | hm
   · have := h7 _ hm; omega
   · simp at hm; omega
 · intro j q hq
   by_cases hj : j < ss.length
   · rw [List.getElem?_append_left hj] at hq
     obtain ⟨s', c', q1, q2, q3⟩ := h8 j q hq
     have hm := List.mem_of_getElem? q2
     refine ⟨s', c', by rw [List.getElem?_append_left (by omega)]; exact q1, by rw [List.getElem?_append_left (by omega)]; exact q2, Vec.chg q3 g5 (fun e => hb0n (e ▸ hm))⟩
   · rw [List.getElem?_append_right (by omega)] at hq
     have hji : j = ss.length := by
       have := (List.getElem?_eq_some_iff.1 hq).1
       simp at this; omega
     subst hji
     simp at hq
     subst hq
     exact ⟨s, c, by rw [List.getElem?_append_right (by omega)]; simp [hclen], by rw [List.getElem?_append_right (by omega)]; simp [h2], Vec.chg hp g5 hcb0⟩
 · intro x hx' hxb
   refine g5.blk x hx' ?_
   rcases hb0r with ⟨e, rfl, _⟩ | ⟨_, e⟩
   · exact hxb e
   · omega
 · rcases hb0r with ⟨e, rfl, _⟩ | ⟨_, e⟩
   · rcases g3 with g3 | g3
     · exact .inl ⟨e, g3⟩
     · exact .inr g3
   · right; omega
theorem miOrders_ok (n : Nat) (hn : n ≤ 3) : ∀ (f lim : Nat) (s : Value) (b : List Nat) (H : AHeap), lim ≤ H.next → SlI H s (zl b) → b.length + f = n →
   ACalls Tryz.prog lim n_spec_miOrders [s, .int .i64 n] H fun v H' => OwnKK H' H.next H'.next v ((ordR n f b).map zl) ∧ Ext H H'
 | 0, lim, s, b, H, hl, hs, hb => by
   refine is_spec_miOrders.go rfl ?_
   unfold c_spec_miOrders
   have hsl := hs.lenV
   rw [zl_length] at hsl
   have d1 : (((b.length : Nat) : Int) == (n : Int)) = true := by simp; omega
   refine s_reg ?_
   simp only [o_pure, o_nil, POp.ev, Opd.ev, env0, gu, setD, List.set, xsj, xel]
   refine s_test ?_
   simp only [o_pure, o_nil, POp.ev, Opd.ev, gv, setD, xsj, xel, binV, ne_eq, xnt, if_false, hsl, d1]
   refine Test.true_ (s_reg ?_)
   simp only [o_pure, o_callF, POp.ev, Opd.ev, gv, setD, List.map, xsj, xel]
   refine (Ints.l1Own_ok lim s (zl b) H hl hs (by rw [zl_length]; omega)).mono ?_
   rintro o H1 ⟨c, hc1, hc2, ho, hx1⟩
   have hn1 := hx1.next
   simp only [o_cont, o_pure, o_eff, o_nil, POp.ev, Opd.ev, EOp.ev, gv, setD, List.set, List.map, xsj, xel, bsliceV _ (.slice none 0 0) (x := o) (Vec.cellsV ho)]
   refine s_ret1 ?_
   simp +decide only [pqr, pfr, resV, resOne, gv, xsj, xel]
   have hx2 := Ext.alloc H1 [o]
   refine ⟨.inr ⟨H1.next, [o], [c], Vec.lit rfl, rfl, ⟨by omega, Nat.lt_succ_self _⟩, by simp, by simp; omega, ?_, ?_⟩, hx1.trans hx2⟩
   · intro c' hc'
     simp at hc'
     subst hc'
     exact ⟨hc1, Nat.lt_of_lt_of_le hc2 hx2.next⟩
   · intro i p hp
     match i, hp with
     | 0, hp =>
       simp [ordR] at hp
       subst hp
       exact ⟨o, c, rfl, rfl, Vec.ext ho hx2⟩
 | f + 1, lim, s, b, H, hl, hs, hb => by
   refine is_spec_miOrders.go rfl ?_
   unfold c_spec_miOrders
   have hsl := hs.lenV
   rw [zl_length] at hsl
   have d1 : (((b.length : Nat) : Int) == (n : Int)) = false := by simp; omega
   refine s_reg ?_
   simp only [o_pure, o_nil, POp.ev, Opd.ev, env0, gu, setD, List.set, xsj, xel]
   refine s_test ?_
   simp only [o_pure, o_nil, POp.ev, Opd.ev, gv, setD, xsj, xel, binV, ne_eq, xnt, if_false, hsl, d1]
   refine Test.false_ (s_skip1 ?_)
   simp +decide only [pqn]
   refine s_reg ?_
   simp only [o_pure, o_nil, POp.ev, Opd.ev, setD, List.set, xsj, xel]
   refine s_assoc (s_reg ?_)
   simp only [o_pure, o_nil, POp.ev, Opd.ev, setD, List.set, xsj, xel]
   refine s_block ?_
   refine s_loop1 (fun j e' H' => ∃ (k bb : Nat) (vs : List Value) (bs : List Nat) (out : Value), k + j = n ∧ GrowK H' H.next bb vs bs out (((List.range k).flatMap fun k => if k ∈ b then [] else ordR n f (b ++ [k])).map zl) ∧ Ext H H' ∧ e' = [s, .int .i64 n, .slice none 0 0, out, .int .i64 k]) n ⟨0, H.next, [], [], .slice none 0 0, by omega, GrowK.nil' H, Ext.refl _, rfl⟩ ?_
   rintro j e' H1 ⟨k, bb, vs, bs, out, hkj, hg, hx, rfl⟩
   have hnx := hx.next
   have hs1 := SlI.ext hs hx
   refine s_test ?_
   simp only [o_pure, o_nil, POp.ev, Opd.ev, gv, setD, xsj, xel, binV, ne_eq, xnt, if_false]
   refine Test.split (fun hlt => ?_) (fun hlt => ?_)
   · have hk : k < n := by simpa using hlt
     refine s_skip1 ?_
     simp +decide only [pqn]
     refine s_block1 ?_
     refine s_test1 ?_
     simp only [o_pure, o_callF, POp.ev, Opd.ev, gv, setD, List.map, xsj, xel]
     refine (Ints.l1Has_ok _ s (zl b) k H1 hs1 (by rw [zl_length]; omega)).eq ?_
     rw [zl_any]
     simp only [o_cont, o_pure, o_nil, POp.ev, Opd.ev, gv, setD, xsj, xel, unV]
     refine Test.split (fun hm => ?_) (fun hm => ?_)
     · have hm' : k ∉ b := by simpa using hm
       have hgl : (((List.range k).flatMap fun k => if k ∈ b then [] else ordR n f (b ++ [k])).map zl).length + (ordR n f (b ++ [k])).length ≤ 1000 := by
         have h1 := ordR_bound n f (b ++ [k])
         have h2 : ((List.range k).flatMap fun k => if k ∈ b then [] else ordR n f (b ++ [k])).length ≤ k * n ^ f := by
           rw [List.length_flatMap]
           have : ∀ l : List Nat, (l.map fun k => (if k ∈ b then [] else ordR n f (b ++ [k])).length).sum ≤ l.length * n ^ f := by
             intro l
             induction l with
             | nil => simp
             | cons a l ih =>
               rw [List.map_cons, List.sum_cons, List.length_cons, Nat.succ_mul]
               have : (if a ∈ b then [] else ordR n f (b ++ [a])).length ≤ n ^ f := by
                 split
                 · simp
                 · exact ordR_bound n f _
               omega
           have := this (List.range k)
           rwa [List.length_range] at this
         have h3 : n ^ f ≤ 3 ^ 3 := Nat.le_trans (Nat.pow_le_pow_left hn f) (Nat.pow_le_pow_right (by decide) (by omega))
         have h4 : k * n ^ f ≤ 3 * 27 := Nat.mul_le_mul (by omega) h3
         rw [List.length_map]
         omega
       refine s_reg1 ?_
       simp only [o_pure, o_callF, POp.ev, Opd.ev, gv, setD, List.map, xsj, xel]
       refine (Ints.l1Own_ok lim s (zl b) H1 (by omega) hs1 (by rw [zl_length]; omega)).mono ?_
       rintro o H2 ⟨c, hc1, hc2, ho, hx2⟩
       obtain ⟨v6, H3, c3, e3, hv3, hc3, hlt3, ch3, n3⟩ := push1 (lim := lim) (bytes := 8) ho (.int .i64 (k : Int)) (by omega) (by rw [zl_length]; omega)
       have hv3' : VecI H3 c3 v6 (zl (b ++ [k])) := by
         rw [zl_snoc]
         exact VecI.snoc hv3
       have hx3 := Chg.ext hx2 ch3 hc1
       have hn3 := hx3.next
       simp only [o_cont, o_pure, o_eff, o_callF, POp.ev, Opd.ev, EOp.ev, gv, setD, List.map, xsj, xel, bsliceV _ (.int .i64 0) (x := .int .i64 (k : Int)) rfl, e3]
       refine (miOrders_ok n hn f lim v6 (b ++ [k]) H3 (by omega) (Vec.sl hv3') (by simp; omega)).mono ?_
       rintro w H4 ⟨hw, hx4⟩
       obtain ⟨v5, H5, b5, vs5, bs5, e5, hg5, hx5⟩ := (hg.ext hx3).appendK (lim := lim) (w := w) (by omega) (hx.trans hx3) (Nat.le_refl _) (by omega) hx4 hw (by rw [List.length_map]; rw [List.length_map] at hgl; rw [List.length_map]; omega)
       simp only [o_cont, o_pure, o_eff, o_nil, POp.ev, Opd.ev, EOp.ev, gv, setD, List.set, xsj, xel, e5]
       simp +decide only [pqn, pbn]
       refine s_reg1 ?_
       simp only [o_pure, o_nil, POp.ev, Opd.ev, gv, setD, List.set, xsj, xel, binV, ne_eq, xnt, if_false, add1 (i := k) (by omega)]
       simp +decide only [pqn]
       refine Round.mk (j - 1) (by omega) ⟨k + 1, b5, vs5, bs5, v5, by omega, ?_, hx5, rfl⟩
       rw [List.range_succ, List.flatMap_append, List.map_append]
       simp only [List.flatMap_cons, List.flatMap_nil, List.append_nil, if_neg hm']
       exact hg5
     · have hm' : k ∈ b := by simpa using hm
       refine s_skip1 ?_
       simp +decide only [pqn, pbn]
       refine s_reg1 ?_
       simp only [o_pure, o_nil, POp.ev, Opd.ev, gv, setD, List.set, xsj, xel, binV, ne_eq, xnt, if_false, add1 (i := k) (by omega)]
       simp +decide only [pqn]
       refine Round.mk (j - 1) (by omega) ⟨k + 1, bb, vs, bs, out, by omega, ?_, hx, rfl⟩
       rw [List.range_succ, List.flatMap_append, List.map_append]
       simp only [List.flatMap_cons, List.flatMap_nil, List.append_nil, if_pos hm', List.map_nil]
       exact hg
   · have hk : k = n := by simp at hlt; omega
     subst hk
     refine s_exit1 ?_
     simp +decide only [pqn, pqe, pbe, reduceIte]
     refine s_reg ?_
     simp only [o_pure, o_nil, POp.ev, Opd.ev, gv, setD, List.set, xsj, xel]
     refine s_ret1 ?_
     simp +decide only [pfr, resV, resOne, gv, xsj, xel]
     exact ⟨hg.own, hx⟩
def passing (k : Nat) (ss : List (List Tm)) (L U : List Int) (n : Nat) : List (List Nat) := (ords n).filter fun o => passB k ss L U (zl o)
theorem passing_len {k : Nat} {ss : List (List Tm)} {L U : List Int} {n : Nat} (hn : n ≤ 3) : (passing k ss L U n).length ≤ 6 :=
 Nat.le_trans (List.length_filter_le _ _) (ords_len ⟨n, by omega⟩)
theorem GrowK.nilL (H : AHeap) (lo : Nat) : GrowK H lo lo [] [] (.slice none 0 0) [] :=
 ⟨Vec.nil _ _ _, rfl, fun _ => rfl, Nat.le_refl _, fun h => absurd rfl h, List.nodup_nil, by simp, by simp, by intro i p h; simp at h⟩
theorem OwnK.extx {H H' : AHeap} {lo hi b : Nat} {vs : List Value} {bs : List Nat} {v : Value} {ss : List (List Int)} (h : OwnK H lo hi b vs bs v ss) (hx : Ext H H') : OwnK H' lo hi b vs bs v ss := h.keep hx.next fun c hc _ _ => hx.blk c hc
theorem OwnK.at {H : AHeap} {lo hi b : Nat} {vs : List Value} {bs : List Nat} {v : Value} {ss : List (List Int)} (h : OwnK H lo hi b vs bs v ss) {i : Nat} (hi' : i < ss.length) : ∃ s c, iadV 1 v (.int .i64 i) = some (.pointer (some ⟨b, i, none⟩)) ∧ H.cell b i = some s ∧ vs[i]? = some s ∧ bs[i]? = some c ∧ VecI H c s ss[i] ∧ c < H.next ∨ ss[i] = [] := by
 by_cases he : ss[i] = []
 · exact ⟨undef, 0, .inr he⟩
 obtain ⟨s, c, g1, g2, g3⟩ := h.el i _ (List.getElem?_eq_getElem hi')
 have h1 := Vec.iad h.vec .i64 hi'
 rw [Nat.mul_one] at h1
 have hlt : c < H.next := (Vec.blk g3 (fun e => he (List.length_eq_zero_iff.1 e))).elim fun _ h => h.2
 exact ⟨s, c, .inl ⟨h1, Vec.cell h.vec g1, g1, g2, g3, hlt⟩⟩
theorem miAll_ok (lim : Nat) (s v : Value) (ss : List (List Tm)) (L U : List Int) (k n : Nat) (H : AHeap) (hl : lim ≤ H.next) (hs : SlSS H s ss) (hv : BoxV H v k L U) (hc : Crs k n L U) (hp : ∀ p ∈ ss, goodP p = true) (hn : ss.length = n) :
   ACalls Tryz.prog lim n_spec_miAll [s, v] H fun v H' => OwnKK H' H.next H'.next v ((passing k ss L U n).map zl) ∧ Ext H H' := by
 obtain ⟨ls, us, rfl, hls, hus⟩ := hv
 have hn3 := hc.n3
 have hn1 := hc.n1
 refine is_spec_miAll.go rfl ?_
 unfold c_spec_miAll
 refine s_reg ?_
 simp only [o_pure, o_eff, o_nil, POp.ev, Opd.ev, EOp.ev, env0, gu, gv, setD, List.set, xms, xsj, xel, boxH, cellsV]
 have hx : Ext H (H.alloc [.int .i64 k, ls, us]) := Ext.alloc _ _
 have hls1 := SlI.ext hls hx
 have hus1 := SlI.ext hus hx
 have hbp : (H.alloc [.int .i64 k, ls, us]).blk H.next = some [.int .i64 k, ls, us] := alloc_new _ _
 have hbl : H.next < (H.alloc [.int .i64 k, ls, us]).next := Nat.lt_succ_self _
 generalize H.alloc [.int .i64 k, ls, us] = H1 at hx hls1 hus1 hbp hbl ⊢
 have hnx1 := hx.next
 refine s_reg ?_
 simp only [o_pure, o_nil, POp.ev, Opd.ev, setD, List.set, xsj, xel]
 refine s_assoc (s_reg ?_)
 simp only [o_pure, o_callF, POp.ev, Opd.ev, gv, setD, List.map, xsj, xel, hs.lenV]
 rw [hn]
 refine (miOrders_ok n hn3 n lim (.slice none 0 0) [] H1 (by omega) (Sl.nil _ _) (by simp)).mono ?_
 rw [ords_same ⟨n, by omega⟩]
 rintro pv H2 ⟨hw, hx2⟩
 have hnx2 := hx2.next
 have hne : ords n ≠ [] := by
   have : ∀ m : Fin 4, ords m.val ≠ [] := by decide
   exact this ⟨n, by omega⟩
 rcases hw with ⟨_, h0⟩ | ⟨bP, vsP, bsP, hP⟩
 · exact absurd (List.map_eq_nil_iff.1 h0) hne
 have hol := ords_len ⟨n, by omega⟩
 have hoi := ords_in ⟨n, by omega⟩
 simp only at hol hoi
 have hlv := Vec.lenV hP.vec
 rw [List.length_map] at hlv
 simp only [o_cont, o_pure, o_nil, POp.ev, Opd.ev, gv, setD, List.set, xsj, xel, hlv]
 refine s_block ?_
 refine s_loop1 (fun j e' H' => ∃ (i b : Nat) (vs : List Value) (bs : List Nat) (out x5 : Value), i + j = (ords n).length ∧ GrowK H' H1.next b vs bs out ((((ords n).take i).filter fun o => passB k ss L U (zl o)).map zl) ∧ OwnK H' H1.next H2.next bP vsP bsP pv ((ords n).map zl) ∧ Ext H1 H' ∧ H2.next ≤ H'.next ∧ (∀ c ∈ bs, c ∈ bsP.take i) ∧ ((((ords n).take i).filter fun o => passB k ss L U (zl o)).map zl ≠ [] → H2.next ≤ b) ∧
   e' = [s, .agg #[.int .i64 k, ls, us], .pointer (some ⟨H.next, 0, none⟩), .slice none 0 0, out, x5, pv, .int .i64 (ords n).length, .int .i64 i]) (ords n).length ⟨0, H1.next, [], [], .slice none 0 0, _, by omega, GrowK.nilL _ _, hP, hx2, Nat.le_refl _, by simp, by simp, rfl⟩ ?_
 clear hP
 rintro j e' H3 ⟨i, b, vs, bs, out, x5, hij, hg, hP, hx3, hn23, hbs, hbb, rfl⟩
 have hnx3 := hx3.next
 refine s_test ?_
 simp only [o_pure, o_nil, POp.ev, Opd.ev, gv, setD, xsj, xel, binV, ne_eq, xnt, if_false]
 refine Test.split (fun hlt => ?_) (fun hlt => ?_)
 · have hlt' : i < (ords n).length := by simpa using hlt
   have hil : i < ((ords n).map zl).length := by rw [List.length_map]; exact hlt'
   obtain ⟨o1, o2⟩ := hoi _ (List.getElem_mem hlt')
   obtain ⟨sv, c, hh⟩ := hP.at hil
   have hne2 : ((ords n).map zl)[i] ≠ [] := by
     rw [List.getElem_map]
     intro e
     have := congrArg List.length e
     rw [zl_length, o1, List.length_nil] at this
     omega
   obtain ⟨w1, w2, w3, w4, w5, w6⟩ := hh.resolve_right hne2
   rw [List.getElem_map] at w5
   have hbp3 : H3.blk H.next = some [.int .i64 k, ls, us] := by rw [hx3.blk _ hbl]; exact hbp
   have hcr := hP.rngs c (List.mem_of_getElem? w4)
   refine s_skip1 ?_
   simp +decide only [pqn]
   refine s_block1 ?_
   refine s_reg ?_
   simp only [o_pure, o_nil, POp.ev, Opd.ev, gv, setD, List.set, xsj, xel, load1V, w1, w2]
   refine s_test1 ?_
   simp only [o_pure, o_callF, POp.ev, Opd.ev, gv, setD, List.map, xsj, xel, load3 hbp3]
   refine (miPasses_ok lim s _ sv ss L U (zl (ords n)[i]) k n H3 (by omega) (hs.ext (hx.trans hx3)) ⟨_, _, rfl, SlI.ext hls1 hx3, SlI.ext hus1 hx3⟩ (Vec.sl w5) hc hp hn (by rw [zl_length]; exact o1) (by
     intro x hxm
     obtain ⟨y, hy, rfl⟩ := List.mem_map.1 hxm
     have := o2 y hy
     omega)).mono ?_
   rintro _ H4 ⟨rfl, hx4⟩
   have hnx4 := hx4.next
   have htk : ((ords n).take (i + 1)).filter (fun o => passB k ss L U (zl o)) = ((ords n).take i).filter (fun o => passB k ss L U (zl o)) ++ (if passB k ss L U (zl (ords n)[i]) = true then [(ords n)[i]] else []) := by
     rw [List.take_succ_eq_append_getElem hlt', List.filter_append]
     congr 1
     cases h : passB k ss L U (zl (ords n)[i]) <;> simp [h]
   have hfl : ((((ords n).take i).filter fun o => passB k ss L U (zl o)).map zl).length ≤ 6 := by
     rw [List.length_map]
     have h1 := List.length_filter_le (fun o => passB k ss L U (zl o)) ((ords n).take i)
     have h2 : ((ords n).take i).length ≤ (ords n).length := by rw [List.length_take]; omega
     omega
   have hP4 := hP.extx hx4
   have hg4 := hg.ext hx4
   have hi2 : i < bsP.length := by rw [hP.len]; exact hil
   have hci : bsP[i] = c := by
     have := List.getElem?_eq_getElem hi2
     rw [w4] at this
     exact (Option.some.inj this).symm
   have hbt : bsP.take (i + 1) = bsP.take i ++ [c] := by rw [List.take_succ_eq_append_getElem hi2, hci]
   have hcn : c ∉ bs := by
     intro hm
     have h1 := hbs c hm
     obtain ⟨m, hm1, hm2⟩ := List.mem_iff_getElem.1 h1
     rw [List.getElem_take] at hm2
     rw [List.length_take] at hm1
     have := (List.getElem_inj (i := m) (j := i) (h₀ := by omega) (h₁ := hi2) hP.nodup).1 (by rw [hm2, hci])
     omega
   simp only [o_cont, o_nil, gv, setD]
   refine Test.split (fun hb => ?_) (fun hb => ?_)
   · obtain ⟨v5, H5, b5, e5, hg5, hx5, hn5, hk5, hb5⟩ := hg4.pushOld (lim := lim) (by omega) (hx3.trans hx4) (Nat.le_refl _) (by omega) hcr.1 (by omega) (fun e => by have := hbb e; omega) hcn (Vec.ext w5 hx4) (by omega)
     refine s_reg1 ?_
     simp only [o_pure, o_eff, o_nil, POp.ev, Opd.ev, EOp.ev, gv, setD, List.set, List.map, xsj, xel, bsliceV _ (.slice none 0 0) (x := sv) (Vec.cellsV w5), e5]
     simp +decide only [pqn, pbn]
     refine s_reg1 ?_
     simp only [o_pure, o_nil, POp.ev, Opd.ev, gv, setD, List.set, xsj, xel, binV, ne_eq, xnt, if_false, add1 (i := i) (by omega)]
     simp +decide only [pqn]
     refine Round.mk (j - 1) (by omega) ⟨i + 1, b5, vs ++ [sv], bs ++ [c], v5, sv, by omega, ?_, hP4.keep hn5 (fun x h1 h2 h3 => hk5 x h1 (fun e => by have := hbb e; omega)), hx5, by omega, ?_, ?_, rfl⟩
     · rw [htk, if_pos hb, List.map_append]
       exact hg5
     · intro c' hc'
       rw [hbt]
       rcases List.mem_append.1 hc' with h | h
       · exact List.mem_append.2 (.inl (hbs c' h))
       · exact List.mem_append.2 (.inr h)
     · intro _
       rcases hb5 with ⟨h1, rfl⟩ | h1
       · exact hbb h1
       · omega
   · refine s_skip1 ?_
     simp +decide only [pqn, pbn]
     refine s_reg1 ?_
     simp only [o_pure, o_nil, POp.ev, Opd.ev, gv, setD, List.set, xsj, xel, binV, ne_eq, xnt, if_false, add1 (i := i) (by omega)]
     simp +decide only [pqn]
     have htk' : ((ords n).take (i + 1)).filter (fun o => passB k ss L U (zl o)) = ((ords n).take i).filter (fun o => passB k ss L U (zl o)) := by rw [htk, hb]; simp
     refine Round.mk (j - 1) (by omega) ⟨i + 1, b, vs, bs, out, sv, by omega, ?_, hP4, hx3.trans hx4, by omega, ?_, ?_, rfl⟩
     · rw [htk']
       exact hg4
     · intro c' hc'
       rw [hbt]
       exact List.mem_append.2 (.inl (hbs c' hc'))
     · rw [htk']
       exact hbb
 · have hge : i = (ords n).length := by simp at hlt; omega
   subst hge
   refine s_exit1 ?_
   simp +decide only [pqn, pqe, pbe, reduceIte]
   refine s_reg ?_
   simp only [o_pure, o_nil, POp.ev, Opd.ev, gv, setD, List.set, xsj, xel]
   refine s_ret1 ?_
   simp +decide only [pfr, resV, resOne, gv, xsj, xel]
   rw [List.take_length] at hg
   exact ⟨hg.own.wide (by omega) (Nat.le_refl _), hx.trans hx3⟩
end Go.Proofs.YtagocdkcnajiiaaGreat
