/- Parts of the proof of a statement of this seat: contracts of functions that the law calls, or the law's own row; no condition. -/
import Derived.Test.YtaimceodhhgnnaaM5
/- Faces of a coarse box, the program: the sign on a face; no condition beyond stated ranges. -/
namespace Go.Proofs.Ytaimceodhhgnnaa
open Go.Ab Ints
set_option linter.unusedSimpArgs false
set_option linter.unusedVariables false

/-- the program's list has the sign told of three axes -/
theorem bernList_sign {k n : Nat} {p : List Tm} {L U : List Int} (hc : Crs k n L U) (hg : goodP p = true) (hf : fromB n p = true) :
    sg ((placesL ((axN p L U n).map (·.d))).map fun is => wr (coef (termsN n k p) (axN p L U n) is)) = sgn3A k p L U := by
  obtain ⟨g1, g2, g3⟩ := goodP_ok hg
  have hb : ∀ t ∈ p, 0 ≤ t.x ∧ t.x ≤ 4 ∧ 0 ≤ t.y ∧ t.y ≤ 4 ∧ 0 ≤ t.z ∧ t.z ≤ 4 := fun t ht => (g1 t ht).2
  have hd := dgI_le hb
  have hPN := places_N (k := k) hc.n1 hc.n3 hc.hL hc.hU hf hb
  unfold sgn3A
  rw [hPN]
  congr 1
  refine List.map_congr_left fun is his => ?_
  have hm : coef (termsN n k p) (axN p L U n) is ∈ (placesL ([axI p L U 0, axI p L U 1, axI p L U 2].map (·.d))).map (coef (terms3 k p) [axI p L U 0, axI p L U 1, axI p L U 2]) := by
    rw [hPN]
    exact List.mem_map.2 ⟨is, his, rfl⟩
  obtain ⟨js, hjs, he⟩ := List.mem_map.1 hm
  obtain ⟨j1, j2⟩ := mem_placesL.1 hjs
  match js, j1 with
  | [x, y, z], _ =>
    have a1 := j2 0 x (axI p L U 0).d rfl rfl
    have a2 := j2 1 y (axI p L U 1).d rfl rfl
    have a3 := j2 2 z (axI p L U 2).d rfl rfl
    rw [← he]
    exact coef_wr hc.hk g2 (fun t ht => (g1 t ht).1) g3 (hc.ax 0 _ (hd 0)) (hc.ax 1 _ (hd 1)) (hc.ax 2 _ (hd 2)) a1 a2 a3
theorem placesL_ne (ms : List Nat) : placesL ms ≠ [] := by
  induction ms with
  | nil => simp [placesL]
  | cons m ms ih =>
    intro h
    obtain ⟨l, hl⟩ := List.exists_mem_of_ne_nil _ ih
    have : (0 :: l) ∈ placesL (m :: ms) := by
      simp only [placesL, List.mem_flatMap, List.mem_map, List.mem_range]
      exact ⟨0, by omega, l, hl, rfl⟩
    rw [h] at this
    simp at this

theorem min_ok (lim : Nat) (s : Value) (A : List Int) (H : AHeap) (hs : SlI H s A) (hne : A ≠ []) (hn : A.length ≤ 1000000) :
    ACalls Try.prog lim n_slices_Min_S_int_int [s] H fun v H' => (∃ m, v = .int .i64 m ∧ m ∈ A ∧ ∀ x ∈ A, m ≤ x) ∧ H' = H := by
  refine is_slices_Min_S_int_int.go rfl ?_
  unfold c_slices_Min_S_int_int
  have hpos : 0 < A.length := List.length_pos_iff.2 hne
  obtain ⟨b0, o0, u0, _, u0c⟩ := hs.get hpos
  have u0' : iadV 1 s (.int .i64 0) = some (.pointer (some ⟨b0, o0, none⟩)) := u0
  have d1 : decide ((A.length : Int) < 1) = false := by simp; omega
  refine s_reg ?_
  simp only [o_pure, o_nil, POp.ev, Opd.ev, env0, gu, setD, List.set, Option.some.injEq, exists_eq_left']
  refine s_test ?_
  simp only [o_pure, o_nil, POp.ev, Opd.ev, gv, setD, Option.some.injEq, exists_eq_left', binV, ne_eq, not_true_eq_false, if_false, hs.lenV, d1]
  refine Test.false_ (s_skip1 ?_)
  simp +decide only [p_seq_normal]
  refine s_reg ?_
  simp only [o_pure, o_nil, POp.ev, Opd.ev, gv, setD, List.set, Option.some.injEq, exists_eq_left', load1V, u0', u0c]
  refine s_assoc (s_reg ?_)
  simp only [o_pure, o_nil, POp.ev, Opd.ev, setD, List.set, Option.some.injEq, exists_eq_left']
  refine s_block ?_
  refine s_loop1 (fun j e' H' => ∃ (i : Nat) (m : Int), i + j = A.length ∧ m ∈ A ∧ (∀ x ∈ A.take i, m ≤ x) ∧ H' = H ∧ e' = [s, .int .i64 0, .int .i64 m, .int .i64 i]) (A.length - 1) ⟨1, A[0], by omega, List.getElem_mem hpos, ?_, rfl, rfl⟩ ?_
  · intro x hx
    rw [show (1 : Nat) = 0 + 1 from rfl, List.take_succ_eq_append_getElem hpos] at hx
    simp at hx
    omega
  rintro j e' H ⟨i, m, hij, hm, hall, rfl, rfl⟩
  refine s_test ?_
  simp only [o_pure, o_nil, POp.ev, Opd.ev, gv, setD, Option.some.injEq, exists_eq_left', binV, ne_eq, not_true_eq_false, if_false, hs.lenV]
  refine Test.split (fun hlt => ?_) (fun hlt => ?_)
  · have hlt' : i < A.length := by simpa using hlt
    obtain ⟨b1, o1, w, _, wc⟩ := hs.get hlt'
    refine s_skip1 ?_
    simp +decide only [p_seq_normal]
    refine s_block1 ?_
    refine s_reg1 ?_
    simp only [o_pure, o_nil, POp.ev, Opd.ev, gv, setD, List.set, Option.some.injEq, exists_eq_left', load1V, min2V, w, wc]
    simp +decide only [p_seq_normal, p_block_normal]
    refine s_reg1 ?_
    simp only [o_pure, o_nil, POp.ev, Opd.ev, gv, setD, List.set, Option.some.injEq, exists_eq_left', binV, ne_eq, not_true_eq_false, if_false, add1 (i := i) (by omega)]
    simp +decide only [p_seq_normal]
    refine Round.mk (j - 1) (by omega) ⟨i + 1, _, by omega, ?_, ?_, rfl, rfl⟩
    · split
      · exact List.getElem_mem hlt'
      · exact hm
    · intro x hx
      rw [List.take_succ_eq_append_getElem hlt'] at hx
      rcases List.mem_append.1 hx with h | h
      · have := hall x h
        split <;> omega
      · rw [List.mem_singleton.1 h]
        split <;> omega
  · have hge : A.length ≤ i := by simp at hlt; omega
    rw [List.take_of_length_le hge] at hall
    refine s_exit1 ?_
    simp +decide only [p_seq_normal, p_seq_exit, p_block_exit, reduceIte]
    refine s_reg ?_
    simp only [o_pure, o_nil, POp.ev, Opd.ev, gv, setD, List.set, Option.some.injEq, exists_eq_left']
    refine s_ret1 ?_
    simp +decide only [p_fin_ret, resV, resOne, gv, Option.some.injEq, exists_eq_left']
    exact ⟨⟨m, rfl, hm, hall⟩, trivial⟩
theorem max_ok (lim : Nat) (s : Value) (A : List Int) (H : AHeap) (hs : SlI H s A) (hne : A ≠ []) (hn : A.length ≤ 1000000) :
    ACalls Try.prog lim n_slices_Max_S_int_int [s] H fun v H' => (∃ m, v = .int .i64 m ∧ m ∈ A ∧ ∀ x ∈ A, x ≤ m) ∧ H' = H := by
  refine is_slices_Max_S_int_int.go rfl ?_
  unfold c_slices_Max_S_int_int
  have hpos : 0 < A.length := List.length_pos_iff.2 hne
  obtain ⟨b0, o0, u0, _, u0c⟩ := hs.get hpos
  have u0' : iadV 1 s (.int .i64 0) = some (.pointer (some ⟨b0, o0, none⟩)) := u0
  have d1 : decide ((A.length : Int) < 1) = false := by simp; omega
  refine s_reg ?_
  simp only [o_pure, o_nil, POp.ev, Opd.ev, env0, gu, setD, List.set, Option.some.injEq, exists_eq_left']
  refine s_test ?_
  simp only [o_pure, o_nil, POp.ev, Opd.ev, gv, setD, Option.some.injEq, exists_eq_left', binV, ne_eq, not_true_eq_false, if_false, hs.lenV, d1]
  refine Test.false_ (s_skip1 ?_)
  simp +decide only [p_seq_normal]
  refine s_reg ?_
  simp only [o_pure, o_nil, POp.ev, Opd.ev, gv, setD, List.set, Option.some.injEq, exists_eq_left', load1V, u0', u0c]
  refine s_assoc (s_reg ?_)
  simp only [o_pure, o_nil, POp.ev, Opd.ev, setD, List.set, Option.some.injEq, exists_eq_left']
  refine s_block ?_
  refine s_loop1 (fun j e' H' => ∃ (i : Nat) (m : Int), i + j = A.length ∧ m ∈ A ∧ (∀ x ∈ A.take i, x ≤ m) ∧ H' = H ∧ e' = [s, .int .i64 0, .int .i64 m, .int .i64 i]) (A.length - 1) ⟨1, A[0], by omega, List.getElem_mem hpos, ?_, rfl, rfl⟩ ?_
  · intro x hx
    rw [show (1 : Nat) = 0 + 1 from rfl, List.take_succ_eq_append_getElem hpos] at hx
    simp at hx
    omega
  rintro j e' H ⟨i, m, hij, hm, hall, rfl, rfl⟩
  refine s_test ?_
  simp only [o_pure, o_nil, POp.ev, Opd.ev, gv, setD, Option.some.injEq, exists_eq_left', binV, ne_eq, not_true_eq_false, if_false, hs.lenV]
  refine Test.split (fun hlt => ?_) (fun hlt => ?_)
  · have hlt' : i < A.length := by simpa using hlt
    obtain ⟨b1, o1, w, _, wc⟩ := hs.get hlt'
    refine s_skip1 ?_
    simp +decide only [p_seq_normal]
    refine s_block1 ?_
    refine s_reg1 ?_
    simp only [o_pure, o_nil, POp.ev, Opd.ev, gv, setD, List.set, Option.some.injEq, exists_eq_left', load1V, max2V, w, wc]
    simp +decide only [p_seq_normal, p_block_normal]
    refine s_reg1 ?_
    simp only [o_pure, o_nil, POp.ev, Opd.ev, gv, setD, List.set, Option.some.injEq, exists_eq_left', binV, ne_eq, not_true_eq_false, if_false, add1 (i := i) (by omega)]
    simp +decide only [p_seq_normal]
    refine Round.mk (j - 1) (by omega) ⟨i + 1, _, by omega, ?_, ?_, rfl, rfl⟩
    · split
      · exact List.getElem_mem hlt'
      · exact hm
    · intro x hx
      rw [List.take_succ_eq_append_getElem hlt'] at hx
      rcases List.mem_append.1 hx with h | h
      · have := hall x h
        split <;> omega
      · rw [List.mem_singleton.1 h]
        split <;> omega
  · have hge : A.length ≤ i := by simp at hlt; omega
    rw [List.take_of_length_le hge] at hall
    refine s_exit1 ?_
    simp +decide only [p_seq_normal, p_seq_exit, p_block_exit, reduceIte]
    refine s_reg ?_
    simp only [o_pure, o_nil, POp.ev, Opd.ev, gv, setD, List.set, Option.some.injEq, exists_eq_left']
    refine s_ret1 ?_
    simp +decide only [p_fin_ret, resV, resOne, gv, Option.some.injEq, exists_eq_left']
    exact ⟨⟨m, rfl, hm, hall⟩, trivial⟩
theorem commonSign_ok (lim : Nat) (s : Value) (A : List Int) (H : AHeap) (hs : SlI H s A) (hne : A ≠ []) (hn : A.length ≤ 1000000) :
    ACalls Try.prog lim n_impl_commonSign [s] H fun v H' => v = .int .i64 (sg A) ∧ H' = H := by
  refine is_impl_commonSign.go rfl ?_
  unfold c_impl_commonSign
  refine s_reg ?_
  simp only [o_pure, o_nil, POp.ev, Opd.ev, env0, gu, setD, List.set, Option.some.injEq, exists_eq_left']
  refine s_block ?_
  refine s_test1 ?_
  simp only [o_pure, o_callF, POp.ev, Opd.ev, gv, setD, List.map, Option.some.injEq, exists_eq_left']
  refine (min_ok _ s A H hs hne hn).mono ?_
  rintro _ H' ⟨⟨m, rfl, hm, hmn⟩, rfl⟩
  simp only [o_cont, o_pure, o_nil, POp.ev, Opd.ev, gv, setD, Option.some.injEq, exists_eq_left', binV, ne_eq, not_true_eq_false, if_false]
  refine Test.split (fun h => ?_) (fun h => ?_)
  · have h' : 0 < m := by simpa using h
    refine s_reg ?_
    simp only [o_pure, o_nil, POp.ev, Opd.ev, setD, List.set, Option.some.injEq, exists_eq_left']
    refine s_ret1 ?_
    simp +decide only [p_seq_ret, p_block_ret, p_fin_ret, resV, resOne, gv, Option.some.injEq, exists_eq_left']
    unfold sg
    rw [if_pos (fun v hv => by have := hmn v hv; omega)]
    exact ⟨rfl, trivial⟩
  · have h' : ¬ 0 < m := by simpa using h
    have c1 : ¬ ∀ v ∈ A, 0 < v := fun hh => h' (hh m hm)
    refine s_test1 ?_
    simp only [o_pure, o_callF, POp.ev, Opd.ev, gv, setD, List.map, Option.some.injEq, exists_eq_left']
    refine (max_ok _ s A H' hs hne hn).mono ?_
    rintro _ H2 ⟨⟨M, rfl, hM, hmx⟩, rfl⟩
    simp only [o_cont, o_pure, o_nil, POp.ev, Opd.ev, gv, setD, Option.some.injEq, exists_eq_left', binV, ne_eq, not_true_eq_false, if_false]
    refine Test.split (fun h2 => ?_) (fun h2 => ?_)
    · have h2' : M < 0 := by simpa using h2
      refine s_reg ?_
      simp only [o_pure, o_nil, POp.ev, Opd.ev, setD, List.set, Option.some.injEq, exists_eq_left']
      refine s_ret1 ?_
      simp +decide only [p_seq_ret, p_block_ret, p_fin_ret, resV, resOne, gv, Option.some.injEq, exists_eq_left']
      unfold sg
      rw [if_neg c1, if_pos (fun v hv => by have := hmx v hv; omega)]
      exact ⟨rfl, trivial⟩
    · have h2' : ¬ M < 0 := by simpa using h2
      refine s_skip1 ?_
      simp +decide only [p_seq_normal, p_block_normal]
      refine s_reg ?_
      simp only [o_pure, o_nil, POp.ev, Opd.ev, setD, List.set, Option.some.injEq, exists_eq_left']
      refine s_ret1 ?_
      simp +decide only [p_fin_ret, resV, resOne, gv, Option.some.injEq, exists_eq_left']
      unfold sg
      rw [if_neg c1, if_neg (fun hh => h2' (hh M hM))]
      exact ⟨rfl, trivial⟩
theorem Ints.BoxP.ext {H H' : AHeap} {q : Nat} {k : Int} {s t : Value} {low high : List Int} (h : BoxP H q k s t low high) (hq : q < H.next) (hx : Ext H H') : BoxP H' q k s t low high :=
  ⟨by rw [hx.blk _ hq]; exact h.blk, SlI.ext h.low hx, SlI.ext h.high hx⟩
theorem faceSign_ok (lim : Nat) (s bl bu : Value) (p : List Tm) (L U : List Int) (k n side q : Nat) (up : Bool) (H : AHeap) (hl : lim ≤ H.next) (hs : SlT H s p) (hv : BoxP H q k bl bu L U) (hq : q < H.next) (hc : Crs k n L U) (hp : goodP p = true) (hf : fromB n p = true) (hside : side < n) :
    ACalls Try.prog lim n_impl_faceSign [s, .pointer (some ⟨q, 0, none⟩), .int .i64 side, .bool up] H fun v H' => v = .int .i64 (fcS k p L U side up) ∧ Ext H H' := by
  have hLn := hc.hL
  have hUn := hc.hU
  have hn3 := hc.n3
  have hn1 := hc.n1
  refine is_impl_faceSign.go rfl ?_
  unfold c_impl_faceSign
  refine s_reg ?_
  simp only [o_pure, o_nil, POp.ev, Opd.ev, env0, gu, setD, List.set, Option.some.injEq, exists_eq_left']
  refine s_reg ?_
  simp only [o_pure, o_callN, POp.ev, Opd.ev, gv, setD, List.map, Option.some.injEq, exists_eq_left', load1V, nilchkV, fadV, List.getElem?_cons_zero, List.getElem?_cons_succ, Nat.zero_add, cell_blk hv.blk]
  refine (Ints.clone_ok _ bl L H (Nat.le_refl _) hv.low (by omega)).use ?_
  rintro lo H2 ⟨b, hb1, hb2, hlo, hx2⟩ _
  simp only [o_cont, o_callF, Opd.ev, gv, setD, List.map]
  refine (Ints.clone_ok lim bu U H2 (by have := hx2.next; omega) (SlI.ext hv.high hx2) (by omega)).mono ?_
  rintro hi H3 ⟨c, hc1, hc2, hhi, hx3⟩
  have hnx2 := hx2.next
  have hnx3 := hx3.next
  have hbl : b < H2.next := (Vec.blk hlo (by omega)).elim fun _ h => h.2
  have hcl : c < H3.next := (Vec.blk hhi (by omega)).elim fun _ h => h.2
  have hlo3 := Vec.ext hlo hx3
  have hx03 := hx2.trans hx3
  have hq3 := hv.ext hq hx03
  simp only [o_cont, o_pure, o_nil, POp.ev, Opd.ev, gv, setD, List.set, Option.some.injEq, exists_eq_left']
  refine s_cut (fun e' H' => VecI H' b lo (faceL L U side up) ∧ VecI H' c hi (faceU L U side up) ∧ Ext H H' ∧ e' = [s, .pointer (some ⟨q, 0, none⟩), .int .i64 side, .bool up, .int .i64 0, lo, hi]) ?_ ?_
  · refine s_test1 ?_
    simp only [o_pure, o_nil, POp.ev, Opd.ev, gv, setD, Option.some.injEq, exists_eq_left']
    cases up
    · refine Test.false_ ?_
      obtain ⟨q1, q2⟩ := VecI.at hlo3 (i := side) (by omega)
      obtain ⟨w1, _⟩ := VecI.at hhi (i := side) (by omega)
      obtain ⟨cs, hst, hhi4⟩ := VecI.put (lim := lim) hhi (by omega) (i := side) (by omega) (L.getD side 0)
      have hch : Chg c H3 (H3.put c cs) := Chg.put _ _ _
      refine s_reg1 ?_
      simp only [o_pure, o_eff, o_nil, POp.ev, Opd.ev, EOp.ev, gv, setD, Option.some.injEq, exists_eq_left', load1V, q1, q2, w1, hst]
      simp +decide only [p_seq_normal]
      exact ⟨Vec.chg hlo3 hch (by omega), hhi4, Chg.ext hx03 hch (by omega), trivial⟩
    · refine Test.true_ ?_
      obtain ⟨q1, q2⟩ := VecI.at hhi (i := side) (by omega)
      obtain ⟨w1, _⟩ := VecI.at hlo3 (i := side) (by omega)
      obtain ⟨cs, hst, hlo4⟩ := VecI.put (lim := lim) hlo3 (by omega) (i := side) (by omega) (U.getD side 0)
      have hch : Chg b H3 (H3.put b cs) := Chg.put _ _ _
      refine s_reg1 ?_
      simp only [o_pure, o_eff, o_nil, POp.ev, Opd.ev, EOp.ev, gv, setD, Option.some.injEq, exists_eq_left', load1V, q1, q2, w1, hst]
      simp +decide only [p_seq_normal]
      exact ⟨hlo4, Vec.chg hhi hch (by omega), Chg.ext hx03 hch (by omega), trivial⟩
  · rintro e' H4 ⟨g1, g2, g3, rfl⟩
    have hfc := hc.face hside up
    have hn4 := g3.next
    refine s_reg ?_
    simp only [o_pure, o_callF, POp.ev, Opd.ev, gv, setD, List.map, Option.some.injEq, exists_eq_left', load1V, nilchkV, fadV, List.getElem?_cons_zero, Nat.zero_add, cell_blk (hv.ext hq g3).blk]
    refine (bernstein_ok lim s lo hi p _ _ k n H4 (by omega) (hs.ext g3) (Vec.sl g1) (Vec.sl g2) hp hc.hk hn3 hfc.hL hfc.hU).mono ?_
    rintro a H5 ⟨b5, ha, hx5⟩
    have hne : ((placesL ((axN p (faceL L U side up) (faceU L U side up) n).map (·.d))).map fun is => wr (coef (termsN n k p) (axN p (faceL L U side up) (faceU L U side up) n) is)) ≠ [] := by
      intro h
      exact placesL_ne _ (List.map_eq_nil_iff.1 h)
    have hlen : ((placesL ((axN p (faceL L U side up) (faceU L U side up) n).map (·.d))).map fun is => wr (coef (termsN n k p) (axN p (faceL L U side up) (faceU L U side up) n) is)).length ≤ 1000000 := by
      obtain ⟨gg1, _, _⟩ := goodP_ok hp
      have hd := dgI_le (p := p) fun t ht => (gg1 t ht).2
      rw [List.length_map, axN_d]
      have h1 := placesL_length (ms := (List.range n).map (dgI p)) fun m hm => by
        obtain ⟨j, _, rfl⟩ := List.mem_map.1 hm
        exact hd j
      have h2 : (5 : Nat) ^ ((List.range n).map (dgI p)).length ≤ 5 ^ 3 := Nat.pow_le_pow_right (by decide) (by simp; omega)
      omega
    simp only [o_cont, o_callF, Opd.ev, gv, setD, List.map]
    refine (commonSign_ok lim a _ H5 (Vec.sl ha) hne hlen).eq ?_
    rw [bernList_sign hfc hp hf]
    simp only [o_cont, o_pure, o_nil, POp.ev, Opd.ev, gv, setD, List.set, Option.some.injEq, exists_eq_left']
    refine s_ret1 ?_
    simp +decide only [p_fin_ret, resV, resOne, gv, Option.some.injEq, exists_eq_left']
    exact ⟨rfl, g3.trans hx5⟩
theorem isOpposite_ok (lim : Nat) (s bl bu : Value) (p : List Tm) (L U : List Int) (k n side q : Nat) (H : AHeap) (hl : lim ≤ H.next) (hs : SlT H s p) (hv : BoxP H q k bl bu L U) (hq : q < H.next) (hc : Crs k n L U) (hp : goodP p = true) (hf : fromB n p = true) (hside : side < n) :
    ACalls Try.prog lim n_impl_isOpposite [s, .pointer (some ⟨q, 0, none⟩), .int .i64 side] H fun v H' => v = .bool (oppB k p L U side) ∧ Ext H H' := by
  refine is_impl_isOpposite.go rfl ?_
  unfold c_impl_isOpposite
  refine s_reg ?_
  simp only [o_pure, o_nil, POp.ev, Opd.ev, env0, gu, setD, List.set, Option.some.injEq, exists_eq_left']
  refine s_reg ?_
  simp only [o_pure, o_callF, POp.ev, Opd.ev, gv, setD, List.map, Option.some.injEq, exists_eq_left']
  refine (faceSign_ok lim s bl bu p L U k n side q false H hl hs hv hq hc hp hf hside).mono ?_
  rintro _ H2 ⟨rfl, hx2⟩
  have hn2 := hx2.next
  simp only [o_cont, o_pure, o_callF, POp.ev, Opd.ev, gv, setD, List.map, Option.some.injEq, exists_eq_left']
  refine (faceSign_ok lim s bl bu p L U k n side q true H2 (by omega) (hs.ext hx2) (hv.ext hq hx2) (by omega) hc hp hf hside).mono ?_
  rintro _ H3 ⟨rfl, hx3⟩
  simp only [o_cont, o_pure, o_nil, POp.ev, Opd.ev, gv, setD, List.set, Option.some.injEq, exists_eq_left', binV, ne_eq, not_true_eq_false, if_false, fcS_wrap]
  refine s_ret1 ?_
  simp +decide only [p_fin_ret, resV, resOne, gv, Option.some.injEq, exists_eq_left']
  exact ⟨rfl, hx2.trans hx3⟩
end Go.Proofs.Ytaimceodhhgnnaa

/- Miranda's test, the program: orders that pass, what is asked; no condition beyond stated lengths. -/
namespace Go.Proofs.Ytaimceodhhgnnaa
open Go.Ab Ints
set_option linter.unusedSimpArgs false
set_option linter.unusedVariables false

theorem passesMiranda_ok (lim : Nat) (s bl bu o : Value) (ss : List (List Tm)) (L U order : List Int) (k n q : Nat) (H : AHeap) (hl : lim ≤ H.next) (hs : SlSS H s ss) (hv : BoxP H q k bl bu L U) (hq : q < H.next) (ho : SlI H o order) (hc : Crs k n L U) (hp : ∀ p ∈ ss, goodP p = true ∧ fromB n p = true) (hn : ss.length = n) (hon : order.length = n) (hin : ∀ x ∈ order, 0 ≤ x ∧ x ≤ (n : Int) - 1) :
    ACalls Try.prog lim n_impl_passesMiranda [s, .pointer (some ⟨q, 0, none⟩), o] H fun v H' => v = .bool (passB k ss L U order) ∧ Ext H H' := by
  have hn3 := hc.n3
  refine is_impl_passesMiranda.go rfl ?_
  unfold c_impl_passesMiranda
  refine s_reg ?_
  simp only [o_pure, o_nil, POp.ev, Opd.ev, env0, gu, setD, List.set, Option.some.injEq, exists_eq_left']
  refine s_assoc (s_reg ?_)
  simp only [o_pure, o_nil, POp.ev, Opd.ev, gv, setD, List.set, Option.some.injEq, exists_eq_left', ho.lenV]
  refine s_block ?_
  refine s_loop1 (fun j e' H' => ∃ (i : Nat) (x5 x6 : Value), i + j = order.length ∧ passB k ss L U order = ((List.range order.length).drop i).all (fun side => oppB k (ss.getD (order.getD side 0).toNat []) L U side) ∧ Ext H H' ∧ e' = [s, .pointer (some ⟨q, 0, none⟩), o, .bool false, x5, x6, o, .int .i64 order.length, .int .i64 i]) order.length ⟨0, _, _, by omega, rfl, Ext.refl _, rfl⟩ ?_
  rintro j e' H2 ⟨i, x5, x6, hij, hall, hx2, rfl⟩
  have hn2 := hx2.next
  refine s_test ?_
  simp only [o_pure, o_nil, POp.ev, Opd.ev, gv, setD, Option.some.injEq, exists_eq_left', binV, ne_eq, not_true_eq_false, if_false]
  refine Test.split (fun hlt => ?_) (fun hlt => ?_)
  · have hlt' : i < order.length := by simpa using hlt
    obtain ⟨b1, o1, u1, _, u2⟩ := SlI.get (SlI.ext ho hx2) hlt'
    have hg : order.getD i 0 = order[i] := by simp [hlt']
    obtain ⟨r1, r2⟩ := hin _ (List.getElem_mem hlt')
    obtain ⟨m, hm⟩ : ∃ m : Nat, order[i] = m := ⟨order[i].toNat, by omega⟩
    have hml : m < ss.length := by omega
    obtain ⟨b2, o2, s1, w1, w2, w3⟩ := (hs.ext hx2).at hml
    rw [List.drop_eq_getElem_cons (by simpa using hlt'), List.all_cons, List.getElem_range, hg, hm, Int.toNat_natCast, show ss.getD m [] = ss[m] from by simp [hml]] at hall
    rw [hm] at u2
    obtain ⟨pp1, pp2⟩ := hp _ (List.getElem_mem hml)
    refine s_skip1 ?_
    simp +decide only [p_seq_normal]
    refine s_block1 ?_
    refine s_reg ?_
    simp only [o_pure, o_nil, POp.ev, Opd.ev, gv, setD, List.set, Option.some.injEq, exists_eq_left', load1V, u1, u2]
    refine s_test1 ?_
    simp only [o_pure, o_callF, POp.ev, Opd.ev, gv, setD, List.map, Option.some.injEq, exists_eq_left', load1V, w1, w2]
    refine (isOpposite_ok lim s1 bl bu ss[m] L U k n i q H2 (by omega) w3 (hv.ext hq hx2) (by omega) hc pp1 pp2 (by omega)).mono ?_
    rintro _ H3 ⟨rfl, hx3⟩
    simp only [o_cont, o_pure, o_nil, POp.ev, Opd.ev, gv, setD, Option.some.injEq, exists_eq_left', unV]
    refine Test.split (fun hb => ?_) (fun hb => ?_)
    · refine s_reg ?_
      simp only [o_pure, o_nil, POp.ev, Opd.ev, setD, List.set, Option.some.injEq, exists_eq_left']
      refine s_ret1 ?_
      simp +decide only [p_seq_ret, p_block_ret, p_fin_ret, resV, resOne, gv, Option.some.injEq, exists_eq_left']
      simp only [Bool.not_eq_true'] at hb
      rw [hb, Bool.false_and] at hall
      rw [hall]
      exact ⟨rfl, hx2.trans hx3⟩
    · refine s_skip1 ?_
      simp +decide only [p_seq_normal, p_block_normal]
      refine s_reg1 ?_
      simp only [o_pure, o_nil, POp.ev, Opd.ev, gv, setD, List.set, Option.some.injEq, exists_eq_left', binV, ne_eq, not_true_eq_false, if_false, add1 (i := i) (by omega)]
      simp +decide only [p_seq_normal]
      simp only [Bool.not_eq_false'] at hb
      rw [hb, Bool.true_and] at hall
      exact Round.mk (j - 1) (by omega) ⟨i + 1, _, _, by omega, hall, hx2.trans hx3, rfl⟩
  · have hge : i = order.length := by simp at hlt; omega
    subst hge
    refine s_exit1 ?_
    simp +decide only [p_seq_normal, p_seq_exit, p_block_exit, reduceIte]
    refine s_reg ?_
    simp only [o_pure, o_nil, POp.ev, Opd.ev, setD, List.set, Option.some.injEq, exists_eq_left']
    refine s_ret1 ?_
    simp +decide only [p_fin_ret, resV, resOne, gv, Option.some.injEq, exists_eq_left']
    rw [List.drop_of_length_le (by simp)] at hall
    rw [hall]
    exact ⟨rfl, hx2⟩

def overB (ss : List (List Tm)) (k : Int) (L U : List Int) : Bool := goodSS ss && goodB k L U && ((ss.length : Int) == (L.length : Int))
theorem systemOver_ok (lim : Nat) (s bl bu : Value) (ss : List (List Tm)) (k : Int) (L U : List Int) (q : Nat) (H : AHeap) (hl : lim ≤ H.next) (hs : SlSS H s ss) (hv : BoxP H q k bl bu L U) (hq : q < H.next) (hn : ss.length ≤ 1000000) (hn2 : ∀ p ∈ ss, p.length ≤ 1000000) (hL : L.length ≤ 1000000) (hU : U.length ≤ 1000000) :
    ACalls Try.prog lim n_impl_systemOver [s, .pointer (some ⟨q, 0, none⟩)] H fun v H' => v = .bool (overB ss k L U) ∧ Ext H H' := by
  refine is_impl_systemOver.go rfl ?_
  unfold c_impl_systemOver
  refine s_reg ?_
  simp only [o_pure, o_nil, POp.ev, Opd.ev, env0, gu, setD, List.set, Option.some.injEq, exists_eq_left']
  refine s_reg ?_
  simp only [o_pure, o_callF, POp.ev, Opd.ev, gv, setD, List.map, Option.some.injEq, exists_eq_left']
  refine (isSystem_ok lim s ss H (by omega) hs hn hn2).mono ?_
  rintro _ H2 ⟨rfl, hx2⟩
  have hn2' := hx2.next
  unfold overB
  cases h1 : goodSS ss
  · simp only [o_cont, o_pure, o_guard, gk_ft, o_nil, POp.ev, Opd.ev, gv, setD, List.set, Option.some.injEq, exists_eq_left', pickV]
    refine s_ret1 ?_
    simp +decide only [p_fin_ret, resV, resOne, gv, Option.some.injEq, exists_eq_left']
    exact ⟨by simp, hx2⟩
  simp only [o_cont, o_pure, o_callF, o_guard, gk_tt, POp.ev, Opd.ev, gv, setD, List.map, Option.some.injEq, exists_eq_left']
  have hv2 := hv.ext hq hx2
  refine (isBox_ok lim hv2 (by omega) (by omega)).eq ?_
  cases h2 : goodB k L U
  · simp only [o_cont, o_pure, o_guard, gk_ft, o_nil, POp.ev, Opd.ev, gv, setD, List.set, Option.some.injEq, exists_eq_left', pickV]
    refine s_ret1 ?_
    simp +decide only [p_fin_ret, resV, resOne, gv, Option.some.injEq, exists_eq_left']
    exact ⟨by simp, hx2⟩
  simp only [o_cont, o_pure, o_guard, gk_tt, o_nil, POp.ev, Opd.ev, gv, setD, List.set, Option.some.injEq, exists_eq_left', pickV, binV, load1V, nilchkV, fadV, ne_eq, not_true_eq_false, if_false, List.getElem?_cons_zero, List.getElem?_cons_succ, Nat.zero_add, cell_blk hv2.blk, hs.lenV, hv.low.lenV]
  refine s_ret1 ?_
  simp +decide only [p_fin_ret, resV, resOne, gv, Option.some.injEq, exists_eq_left']
  exact ⟨by simp, hx2⟩
theorem ask_over (ss : List (List Tm)) (k : Int) (L U : List Int) : askB ss k L U = (overB ss k L U && decide (k ≤ 4)) := by
  unfold askB overB
  cases goodSS ss <;> cases goodB k L U <;> cases decide (k ≤ 4) <;> simp
end Go.Proofs.Ytaimceodhhgnnaa

/- All orders, the reference: in order, and those that pass; no condition beyond stated ranges. -/
namespace Go.Proofs.Ytaimceodhhgnnaa
open Go.Ab Ints
set_option linter.unusedSimpArgs false
set_option linter.unusedVariables false

def ordR (n : Nat) : Nat → List Nat → List (List Nat)
  | 0, b => [b]
  | f + 1, b => (List.range n).flatMap fun k => if k ∈ b then [] else ordR n f (b ++ [k])
def ordI2 (n : Nat) : Nat → List (List Nat)
  | 0 => [[]]
  | i + 1 => (ordI2 n i).flatMap fun l => (List.range n).flatMap fun k => if k ∈ l then [] else [l ++ [k]]
/-- all orders of n numbers -/
def ords (n : Nat) : List (List Nat) := ordI2 n n
theorem ords_same : ∀ n : Fin 4, ordR n.val n.val [] = ords n.val := by decide
theorem ords_in : ∀ n : Fin 4, ∀ o ∈ ords n.val, o.length = n.val ∧ ∀ x ∈ o, x < n.val := by decide
theorem ords_len : ∀ n : Fin 4, (ords n.val).length ≤ 6 := by decide
theorem ordR_bound (n : Nat) : ∀ (f : Nat) (b : List Nat), (ordR n f b).length ≤ n ^ f
  | 0, b => by simp [ordR]
  | f + 1, b => by
    rw [ordR, List.length_flatMap]
    have h : ∀ l : List Nat, (l.map fun k => (if k ∈ b then [] else ordR n f (b ++ [k])).length).sum ≤ l.length * n ^ f := by
      intro l
      induction l with
      | nil => simp
      | cons k l ih =>
        rw [List.map_cons, List.sum_cons, List.length_cons, Nat.succ_mul]
        have : (if k ∈ b then [] else ordR n f (b ++ [k])).length ≤ n ^ f := by
          split
          · simp
          · exact ordR_bound n f _
        omega
    have := h (List.range n)
    rw [List.length_range] at this
    rw [Nat.pow_succ, Nat.mul_comm]
    exact this
theorem zl_any (l : List Nat) (k : Nat) : ((zl l).any (· == (k : Int))) = decide (k ∈ l) := by
  induction l with
  | nil => simp [zl]
  | cons a l ih =>
    have e : zl (a :: l) = (a : Int) :: zl l := rfl
    rw [e, List.any_cons, ih]
    by_cases h : a = k
    · subst h; simp
    · have h1 : ((a : Int) == (k : Int)) = false := by simp; omega
      rw [h1]
      simp [Ne.symm h]

theorem GrowK.ext {H H' : AHeap} {lo b : Nat} {vs : List Value} {bs : List Nat} {v : Value} {ss : List (List Int)} (h : GrowK H lo b vs bs v ss) (hx : Ext H H') : GrowK H' lo b vs bs v ss := by
  obtain ⟨h1, h2, h3, h4, h5, h6, h7, h8, h9⟩ := h
  have := hx.next
  refine ⟨Vec.ext h1 hx, h2, h3, h4, fun e => by have := h5 e; omega, h6, h7, fun c hc => by have := h8 c hc; omega, fun i p hp => ?_⟩
  obtain ⟨s, c, g1, g2, g3⟩ := h9 i p hp
  exact ⟨s, c, g1, g2, Vec.ext g3 hx⟩
theorem append_none {lim : Nat} {H H' : AHeap} {b bytes sz n : Nat} {v w : Value} {cells xs : List Value} (h : Vec H b v n sz cells) (hw : Sl H' w 0 sz xs) : appendH lim H sz bytes v w = some (v, H) := by
  obtain ⟨_, a, c, rfl, _⟩ := hw
  rcases h with ⟨rfl, _⟩ | ⟨c', sp, rest, rfl, _⟩ <;> simp [appendH]
/-- the block that a growing list is appended to -/
theorem GrowK.base {H H2 : AHeap} {lo b : Nat} {vs : List Value} {bs : List Nat} {v : Value} {ss : List (List Int)} (h : GrowK H lo b vs bs v ss) (hloH : lo ≤ H.next) (hx : Ext H H2) :
    ∃ b0, Vec H2 b0 v ss.length 1 vs ∧ lo ≤ b0 ∧ b0 ∉ bs ∧ (ss ≠ [] ∧ b0 = b ∧ b0 < H.next ∨ ss = [] ∧ H2.next < b0) := by
  obtain ⟨h1, h2, hnil, h3, h4, h5, h6, h7, h8⟩ := h
  have hnx := hx.next
  by_cases hs : ss = []
  · subst hs
    have hv := hnil rfl
    subst hv
    have hvs : vs = [] := List.length_eq_zero_iff.1 (by simpa using h1.clen)
    subst hvs
    refine ⟨H2.next + 1, Vec.nil _ _ _, by omega, fun hm => ?_, .inr ⟨rfl, by omega⟩⟩
    have := h7 _ hm
    omega
  · exact ⟨b, h1.ext hx, h3, h6, .inl ⟨hs, rfl, h4 hs⟩⟩
/-- a list of one's own is appended -/
theorem GrowK.appendK {lim : Nat} {H0 H H2 : AHeap} {lo b : Nat} {vs : List Value} {bs : List Nat} {v w : Value} {ss ss2 : List (List Int)} (h : GrowK H lo b vs bs v ss) (hlim : lim ≤ lo) (hx0 : Ext H0 H) (hlo : H0.next ≤ lo) (hloH : lo ≤ H.next) (hx : Ext H H2)
    (hw : OwnKK H2 H.next H2.next w ss2) (hn : ss.length + ss2.length ≤ 1000000) :
    ∃ v' H3 b' vs' bs', appendH lim H2 1 24 v w = some (v', H3) ∧ GrowK H3 lo b' vs' bs' v' (ss ++ ss2) ∧ Ext H0 H3 := by
  have hnx := hx.next
  by_cases hs2 : ss2 = []
  · subst hs2
    obtain ⟨ws, hsl, _⟩ := hw.slss
    refine ⟨v, H2, b, vs, bs, append_none (Vec.ext h.vec hx) hsl, ?_, hx0.trans hx⟩
    rw [List.append_nil]
    exact h.ext hx
  rcases hw with ⟨_, e⟩ | ⟨b2, vs2, bs2, k1, k2, k3, k4, k5, k6, k7⟩
  · exact absurd e hs2
  obtain ⟨b0, hv0, hb0, hb0n, hb0r⟩ := h.base hloH hx
  obtain ⟨h1, h2, hnil, h3, h4, h5, h6, h7, h8⟩ := h
  have hclen := h1.clen
  obtain ⟨v', H3, b', g1, g2, g3, g4, g5⟩ := hv0.append (lim := lim) (by omega) k1.sl (by decide) (bytes := 24) (by omega)
  have hpos : ss2.length ≠ 0 := fun e => hs2 (List.length_eq_zero_iff.1 e)
  have hb3 : b' < H3.next := (g2.blk (by omega)).elim fun _ h => h.2
  have hgn := g4.next
  refine ⟨v', H3, b', vs ++ vs2, bs ++ bs2, g1, ⟨by rw [List.length_append]; exact g2, by simp [h2, k2], fun e => absurd (List.append_eq_nil_iff.1 e).2 hs2, by omega, fun _ => hb3, ?_, ?_, ?_, ?_⟩, Chg.ext (hx0.trans hx) g4 (by omega)⟩
  · refine List.nodup_append.2 ⟨h5, k4, ?_⟩
    intro x hx' y hy
    have := h7 x hx'
    have := k6 y hy
    omega
  · intro hm
    rcases List.mem_append.1 hm with hm | hm
    · rcases g3 with rfl | ⟨rfl, _⟩
      · exact hb0n hm
      · have := h7 _ hm; omega
    · have := k6 _ hm
      rcases g3 with rfl | ⟨rfl, _⟩ <;> omega
  · intro c' hc'
    rcases List.mem_append.1 hc' with hm | hm
    · have := h7 _ hm; omega
    · have := k6 _ hm; omega
  · intro j q hq
    by_cases hj : j < ss.length
    · rw [List.getElem?_append_left hj] at hq
      obtain ⟨s', c', q1, q2, q3⟩ := h8 j q hq
      have hm := List.mem_of_getElem? q2
      refine ⟨s', c', by rw [List.getElem?_append_left (by omega)]; exact q1, by rw [List.getElem?_append_left (by omega)]; exact q2, Vec.chg (Vec.ext q3 hx) g4 (fun e => hb0n (e ▸ hm))⟩
    · rw [List.getElem?_append_right (by omega)] at hq
      obtain ⟨s', c', q1, q2, q3⟩ := k7 _ q hq
      have hm := k6 _ (List.mem_of_getElem? q2)
      have e1 : j - vs.length = j - ss.length := by omega
      have e2 : j - bs.length = j - ss.length := by omega
      exact ⟨s', c', by rw [List.getElem?_append_right (by omega), e1]; exact q1, by rw [List.getElem?_append_right (by omega), e2]; exact q2, Vec.chg q3 g4 (by omega)⟩
/-- an element that stands already is appended -/
theorem GrowK.pushOld {lim : Nat} {H0 H : AHeap} {lo b c : Nat} {vs : List Value} {bs : List Nat} {v s : Value} {ss : List (List Int)} {p : List Int} (h : GrowK H lo b vs bs v ss) (hlim : lim ≤ lo) (hx0 : Ext H0 H) (hlo : H0.next ≤ lo) (hloH : lo ≤ H.next)
    (hc1 : lo ≤ c) (hc2 : c < H.next) (hcb : ss ≠ [] → c ≠ b) (hcn : c ∉ bs) (hp : VecI H c s p) (hn : ss.length ≤ 1000000) :
    ∃ v' H3 b', appendH lim (H.alloc [s]) 1 24 v (.slice (some ⟨H.next, 0, some 0⟩) 1 1) = some (v', H3) ∧ GrowK H3 lo b' (vs ++ [s]) (bs ++ [c]) v' (ss ++ [p]) ∧ Ext H0 H3 ∧ H.next ≤ H3.next ∧ (∀ x, x < H.next → (ss ≠ [] → x ≠ b) → H3.blk x = H.blk x) ∧ (ss ≠ [] ∧ b' = b ∨ H.next < b') := by
  obtain ⟨b0, hv0, hb0, hb0n, hb0r⟩ := h.base hloH (Ext.refl H)
  obtain ⟨h1, h2, hnil, h3, h4, h5, h6, h7, h8⟩ := h
  have hclen := h1.clen
  obtain ⟨v', H3, b', g1, g2, g3, g4, g5, g6⟩ := push1 hv0 (lim := lim) s (by omega) (bytes := 24) (by omega)
  have hcb0 : c ≠ b0 := by
    rcases hb0r with ⟨e, rfl, _⟩ | ⟨_, e⟩
    · exact hcb e
    · omega
  refine ⟨v', H3, b', g1, ⟨by rw [List.length_append]; exact g2, by simp [h2], by simp, by omega, fun _ => g4, ?_, ?_, ?_, ?_⟩, Chg.ext hx0 g5 (by omega), by omega, ?_, ?_⟩
  · refine List.nodup_append.2 ⟨h5, by simp, ?_⟩
    intro x hx' y hy
    simp at hy
    subst hy
    intro e
    exact hcn (e ▸ hx')
  · intro hm
    rcases List.mem_append.1 hm with hm | hm
    · rcases g3 with rfl | g3
      · exact hb0n hm
      · have := h7 _ hm; omega
    · simp at hm
      rcases g3 with rfl | g3
      · exact hcb0 hm.symm
      · omega
  · intro c' hc'
    rcases List.mem_append.1 hc' with hm | hm
    · have := h7 _ hm; omega
    · simp at hm; omega
  · intro j q hq
    by_cases hj : j < ss.length
    · rw [List.getElem?_append_left hj] at hq
      obtain ⟨s', c', q1, q2, q3⟩ := h8 j q hq
      have hm := List.mem_of_getElem? q2
      refine ⟨s', c', by rw [List.getElem?_append_left (by omega)]; exact q1, by rw [List.getElem?_append_left (by omega)]; exact q2, Vec.chg q3 g5 (fun e => hb0n (e ▸ hm))⟩
    · rw [List.getElem?_append_right (by omega)] at hq
      have hji : j = ss.length := by
        have := (List.getElem?_eq_some_iff.1 hq).1
        simp at this; omega
      subst hji
      simp at hq
      subst hq
      exact ⟨s, c, by rw [List.getElem?_append_right (by omega)]; simp [hclen], by rw [List.getElem?_append_right (by omega)]; simp [h2], Vec.chg hp g5 hcb0⟩
  · intro x hx' hxb
    refine g5.blk x hx' ?_
    rcases hb0r with ⟨e, rfl, _⟩ | ⟨_, e⟩
    · exact hxb e
    · omega
  · rcases hb0r with ⟨e, rfl, _⟩ | ⟨_, e⟩
    · rcases g3 with g3 | g3
      · exact .inl ⟨e, g3⟩
      · exact .inr g3
    · right; omega

theorem miOrders_ok (n : Nat) (hn : n ≤ 3) : ∀ (f lim : Nat) (s : Value) (b : List Nat) (H : AHeap), lim ≤ H.next → SlI H s (zl b) → b.length + f = n →
    ACalls Try.prog lim n_spec_miOrders [s, .int .i64 n] H fun v H' => OwnKK H' H.next H'.next v ((ordR n f b).map zl) ∧ Ext H H'
  | 0, lim, s, b, H, hl, hs, hb => by
    refine is_spec_miOrders.go rfl ?_
    unfold c_spec_miOrders
    have hsl := hs.lenV
    rw [zl_length] at hsl
    have d1 : (((b.length : Nat) : Int) == (n : Int)) = true := by simp; omega
    refine s_reg ?_
    simp only [o_pure, o_nil, POp.ev, Opd.ev, env0, gu, setD, List.set, Option.some.injEq, exists_eq_left']
    refine s_test ?_
    simp only [o_pure, o_nil, POp.ev, Opd.ev, gv, setD, Option.some.injEq, exists_eq_left', binV, ne_eq, not_true_eq_false, if_false, hsl, d1]
    refine Test.true_ (s_reg ?_)
    simp only [o_pure, o_callF, POp.ev, Opd.ev, gv, setD, List.map, Option.some.injEq, exists_eq_left']
    refine (Ints.l1Own_ok lim s (zl b) H hl hs (by rw [zl_length]; omega)).mono ?_
    rintro o H1 ⟨c, hc1, hc2, ho, hx1⟩
    have hn1 := hx1.next
    simp only [o_cont, o_pure, o_eff, o_nil, POp.ev, Opd.ev, EOp.ev, gv, setD, List.set, List.map, Option.some.injEq, exists_eq_left', bsliceV _ (.slice none 0 0) (x := o) (Vec.cellsV ho)]
    refine s_ret1 ?_
    simp +decide only [p_seq_ret, p_fin_ret, resV, resOne, gv, Option.some.injEq, exists_eq_left']
    have hx2 := Ext.alloc H1 [o]
    refine ⟨.inr ⟨H1.next, [o], [c], Vec.lit rfl, rfl, ⟨by omega, Nat.lt_succ_self _⟩, by simp, by simp; omega, ?_, ?_⟩, hx1.trans hx2⟩
    · intro c' hc'
      simp at hc'
      subst hc'
      exact ⟨hc1, Nat.lt_of_lt_of_le hc2 hx2.next⟩
    · intro i p hp
      match i, hp with
      | 0, hp =>
        simp [ordR] at hp
        subst hp
        exact ⟨o, c, rfl, rfl, Vec.ext ho hx2⟩
  | f + 1, lim, s, b, H, hl, hs, hb => by
    refine is_spec_miOrders.go rfl ?_
    unfold c_spec_miOrders
    have hsl := hs.lenV
    rw [zl_length] at hsl
    have d1 : (((b.length : Nat) : Int) == (n : Int)) = false := by simp; omega
    refine s_reg ?_
    simp only [o_pure, o_nil, POp.ev, Opd.ev, env0, gu, setD, List.set, Option.some.injEq, exists_eq_left']
    refine s_test ?_
    simp only [o_pure, o_nil, POp.ev, Opd.ev, gv, setD, Option.some.injEq, exists_eq_left', binV, ne_eq, not_true_eq_false, if_false, hsl, d1]
    refine Test.false_ (s_skip1 ?_)
    simp +decide only [p_seq_normal]
    refine s_reg ?_
    simp only [o_pure, o_nil, POp.ev, Opd.ev, setD, List.set, Option.some.injEq, exists_eq_left']
    refine s_assoc (s_reg ?_)
    simp only [o_pure, o_nil, POp.ev, Opd.ev, setD, List.set, Option.some.injEq, exists_eq_left']
    refine s_block ?_
    refine s_loop1 (fun j e' H' => ∃ (k bb : Nat) (vs : List Value) (bs : List Nat) (out : Value), k + j = n ∧ GrowK H' H.next bb vs bs out (((List.range k).flatMap fun k => if k ∈ b then [] else ordR n f (b ++ [k])).map zl) ∧ Ext H H' ∧ e' = [s, .int .i64 n, .slice none 0 0, out, .int .i64 k]) n ⟨0, H.next, [], [], .slice none 0 0, by omega, GrowK.nil' H, Ext.refl _, rfl⟩ ?_
    rintro j e' H1 ⟨k, bb, vs, bs, out, hkj, hg, hx, rfl⟩
    have hnx := hx.next
    have hs1 := SlI.ext hs hx
    refine s_test ?_
    simp only [o_pure, o_nil, POp.ev, Opd.ev, gv, setD, Option.some.injEq, exists_eq_left', binV, ne_eq, not_true_eq_false, if_false]
    refine Test.split (fun hlt => ?_) (fun hlt => ?_)
    · have hk : k < n := by simpa using hlt
      refine s_skip1 ?_
      simp +decide only [p_seq_normal]
      refine s_block1 ?_
      refine s_test1 ?_
      simp only [o_pure, o_callF, POp.ev, Opd.ev, gv, setD, List.map, Option.some.injEq, exists_eq_left']
      refine (Ints.l1Has_ok _ s (zl b) k H1 hs1 (by rw [zl_length]; omega)).eq ?_
      rw [zl_any]
      simp only [o_cont, o_pure, o_nil, POp.ev, Opd.ev, gv, setD, Option.some.injEq, exists_eq_left', unV]
      refine Test.split (fun hm => ?_) (fun hm => ?_)
      · have hm' : k ∉ b := by simpa using hm
        have hgl : (((List.range k).flatMap fun k => if k ∈ b then [] else ordR n f (b ++ [k])).map zl).length + (ordR n f (b ++ [k])).length ≤ 1000 := by
          have h1 := ordR_bound n f (b ++ [k])
          have h2 : ((List.range k).flatMap fun k => if k ∈ b then [] else ordR n f (b ++ [k])).length ≤ k * n ^ f := by
            rw [List.length_flatMap]
            have : ∀ l : List Nat, (l.map fun k => (if k ∈ b then [] else ordR n f (b ++ [k])).length).sum ≤ l.length * n ^ f := by
              intro l
              induction l with
              | nil => simp
              | cons a l ih =>
                rw [List.map_cons, List.sum_cons, List.length_cons, Nat.succ_mul]
                have : (if a ∈ b then [] else ordR n f (b ++ [a])).length ≤ n ^ f := by
                  split
                  · simp
                  · exact ordR_bound n f _
                omega
            have := this (List.range k)
            rwa [List.length_range] at this
          have h3 : n ^ f ≤ 3 ^ 3 := Nat.le_trans (Nat.pow_le_pow_left hn f) (Nat.pow_le_pow_right (by decide) (by omega))
          have h4 : k * n ^ f ≤ 3 * 27 := Nat.mul_le_mul (by omega) h3
          rw [List.length_map]
          omega
        refine s_reg1 ?_
        simp only [o_pure, o_callF, POp.ev, Opd.ev, gv, setD, List.map, Option.some.injEq, exists_eq_left']
        refine (Ints.l1Own_ok lim s (zl b) H1 (by omega) hs1 (by rw [zl_length]; omega)).mono ?_
        rintro o H2 ⟨c, hc1, hc2, ho, hx2⟩
        obtain ⟨v6, H3, c3, e3, hv3, hc3, hlt3, ch3, n3⟩ := push1 (lim := lim) (bytes := 8) ho (.int .i64 (k : Int)) (by omega) (by rw [zl_length]; omega)
        have hv3' : VecI H3 c3 v6 (zl (b ++ [k])) := by
          rw [zl_snoc]
          exact VecI.snoc hv3
        have hx3 := Chg.ext hx2 ch3 hc1
        have hn3 := hx3.next
        simp only [o_cont, o_pure, o_eff, o_callF, POp.ev, Opd.ev, EOp.ev, gv, setD, List.map, Option.some.injEq, exists_eq_left', bsliceV _ (.int .i64 0) (x := .int .i64 (k : Int)) rfl, e3]
        refine (miOrders_ok n hn f lim v6 (b ++ [k]) H3 (by omega) (Vec.sl hv3') (by simp; omega)).mono ?_
        rintro w H4 ⟨hw, hx4⟩
        obtain ⟨v5, H5, b5, vs5, bs5, e5, hg5, hx5⟩ := (hg.ext hx3).appendK (lim := lim) (w := w) (by omega) (hx.trans hx3) (Nat.le_refl _) (by omega) hx4 hw (by rw [List.length_map]; rw [List.length_map] at hgl; rw [List.length_map]; omega)
        simp only [o_cont, o_pure, o_eff, o_nil, POp.ev, Opd.ev, EOp.ev, gv, setD, List.set, Option.some.injEq, exists_eq_left', e5]
        simp +decide only [p_seq_normal, p_block_normal]
        refine s_reg1 ?_
        simp only [o_pure, o_nil, POp.ev, Opd.ev, gv, setD, List.set, Option.some.injEq, exists_eq_left', binV, ne_eq, not_true_eq_false, if_false, add1 (i := k) (by omega)]
        simp +decide only [p_seq_normal]
        refine Round.mk (j - 1) (by omega) ⟨k + 1, b5, vs5, bs5, v5, by omega, ?_, hx5, rfl⟩
        rw [List.range_succ, List.flatMap_append, List.map_append]
        simp only [List.flatMap_cons, List.flatMap_nil, List.append_nil, if_neg hm']
        exact hg5
      · have hm' : k ∈ b := by simpa using hm
        refine s_skip1 ?_
        simp +decide only [p_seq_normal, p_block_normal]
        refine s_reg1 ?_
        simp only [o_pure, o_nil, POp.ev, Opd.ev, gv, setD, List.set, Option.some.injEq, exists_eq_left', binV, ne_eq, not_true_eq_false, if_false, add1 (i := k) (by omega)]
        simp +decide only [p_seq_normal]
        refine Round.mk (j - 1) (by omega) ⟨k + 1, bb, vs, bs, out, by omega, ?_, hx, rfl⟩
        rw [List.range_succ, List.flatMap_append, List.map_append]
        simp only [List.flatMap_cons, List.flatMap_nil, List.append_nil, if_pos hm', List.map_nil]
        exact hg
    · have hk : k = n := by simp at hlt; omega
      subst hk
      refine s_exit1 ?_
      simp +decide only [p_seq_normal, p_seq_exit, p_block_exit, reduceIte]
      refine s_reg ?_
      simp only [o_pure, o_nil, POp.ev, Opd.ev, gv, setD, List.set, Option.some.injEq, exists_eq_left']
      refine s_ret1 ?_
      simp +decide only [p_fin_ret, resV, resOne, gv, Option.some.injEq, exists_eq_left']
      exact ⟨hg.own, hx⟩
end Go.Proofs.Ytaimceodhhgnnaa

/- Miranda's orders, the reference: all that pass, the degree; no condition beyond stated ranges. -/
namespace Go.Proofs.Ytaimceodhhgnnaa
open Go.Ab Ints
set_option linter.unusedSimpArgs false
set_option linter.unusedVariables false

/-- all orders that pass -/
def passing (k : Nat) (ss : List (List Tm)) (L U : List Int) (n : Nat) : List (List Nat) := (ords n).filter fun o => passB k ss L U (zl o)
theorem passing_in {k : Nat} {ss : List (List Tm)} {L U : List Int} {n : Nat} (hn : n ≤ 3) {o : List Nat} (h : o ∈ passing k ss L U n) : o.length = n ∧ ∀ x ∈ o, x < n :=
  ords_in ⟨n, by omega⟩ o (List.mem_filter.1 h).1
theorem GrowK.nilL (H : AHeap) (lo : Nat) : GrowK H lo lo [] [] (.slice none 0 0) [] :=
  ⟨Vec.nil _ _ _, rfl, fun _ => rfl, Nat.le_refl _, fun h => absurd rfl h, List.nodup_nil, by simp, by simp, by intro i p h; simp at h⟩
theorem OwnK.extx {H H' : AHeap} {lo hi b : Nat} {vs : List Value} {bs : List Nat} {v : Value} {ss : List (List Int)} (h : OwnK H lo hi b vs bs v ss) (hx : Ext H H') : OwnK H' lo hi b vs bs v ss := h.keep hx.next fun c hc _ _ => hx.blk c hc
theorem OwnK.at {H : AHeap} {lo hi b : Nat} {vs : List Value} {bs : List Nat} {v : Value} {ss : List (List Int)} (h : OwnK H lo hi b vs bs v ss) {i : Nat} (hi' : i < ss.length) : ∃ s c, iadV 1 v (.int .i64 i) = some (.pointer (some ⟨b, i, none⟩)) ∧ H.cell b i = some s ∧ vs[i]? = some s ∧ bs[i]? = some c ∧ VecI H c s ss[i] ∧ c < H.next ∨ ss[i] = [] := by
  by_cases he : ss[i] = []
  · exact ⟨undef, 0, .inr he⟩
  obtain ⟨s, c, g1, g2, g3⟩ := h.el i _ (List.getElem?_eq_getElem hi')
  have h1 := Vec.iad h.vec .i64 hi'
  rw [Nat.mul_one] at h1
  have hlt : c < H.next := (Vec.blk g3 (fun e => he (List.length_eq_zero_iff.1 e))).elim fun _ h => h.2
  exact ⟨s, c, .inl ⟨h1, Vec.cell h.vec g1, g1, g2, g3, hlt⟩⟩

theorem miAll_ok (lim : Nat) (s v : Value) (ss : List (List Tm)) (L U : List Int) (k n : Nat) (H : AHeap) (hl : lim ≤ H.next) (hs : SlSS H s ss) (hv : BoxV H v k L U) (hc : Crs k n L U) (hp : ∀ p ∈ ss, goodP p = true) (hn : ss.length = n) :
    ACalls Try.prog lim n_spec_miAll [s, v] H fun v H' => OwnKK H' H.next H'.next v ((passing k ss L U n).map zl) ∧ Ext H H' := by
  obtain ⟨ls, us, rfl, hls, hus⟩ := hv
  have hn3 := hc.n3
  have hn1 := hc.n1
  refine is_spec_miAll.go rfl ?_
  unfold c_spec_miAll
  refine s_reg ?_
  simp only [o_pure, o_eff, o_nil, POp.ev, Opd.ev, EOp.ev, env0, gu, gv, setD, List.set, Option.map_some, Option.some.injEq, exists_eq_left', boxH, cellsV]
  have hx : Ext H (H.alloc [.int .i64 k, ls, us]) := Ext.alloc _ _
  have hls1 := SlI.ext hls hx
  have hus1 := SlI.ext hus hx
  have hbp : (H.alloc [.int .i64 k, ls, us]).blk H.next = some [.int .i64 k, ls, us] := alloc_new _ _
  have hbl : H.next < (H.alloc [.int .i64 k, ls, us]).next := Nat.lt_succ_self _
  generalize H.alloc [.int .i64 k, ls, us] = H1 at hx hls1 hus1 hbp hbl ⊢
  have hnx1 := hx.next
  refine s_reg ?_
  simp only [o_pure, o_nil, POp.ev, Opd.ev, setD, List.set, Option.some.injEq, exists_eq_left']
  refine s_assoc (s_reg ?_)
  simp only [o_pure, o_callF, POp.ev, Opd.ev, gv, setD, List.map, Option.some.injEq, exists_eq_left', hs.lenV]
  rw [hn]
  refine (miOrders_ok n hn3 n lim (.slice none 0 0) [] H1 (by omega) (Sl.nil _ _) (by simp)).mono ?_
  rw [ords_same ⟨n, by omega⟩]
  rintro pv H2 ⟨hw, hx2⟩
  have hnx2 := hx2.next
  have hne : ords n ≠ [] := by
    have : ∀ m : Fin 4, ords m.val ≠ [] := by decide
    exact this ⟨n, by omega⟩
  rcases hw with ⟨_, h0⟩ | ⟨bP, vsP, bsP, hP⟩
  · exact absurd (List.map_eq_nil_iff.1 h0) hne
  have hol := ords_len ⟨n, by omega⟩
  have hoi := ords_in ⟨n, by omega⟩
  simp only at hol hoi
  have hlv := Vec.lenV hP.vec
  rw [List.length_map] at hlv
  simp only [o_cont, o_pure, o_nil, POp.ev, Opd.ev, gv, setD, List.set, Option.some.injEq, exists_eq_left', hlv]
  refine s_block ?_
  refine s_loop1 (fun j e' H' => ∃ (i b : Nat) (vs : List Value) (bs : List Nat) (out x5 : Value), i + j = (ords n).length ∧ GrowK H' H1.next b vs bs out ((((ords n).take i).filter fun o => passB k ss L U (zl o)).map zl) ∧ OwnK H' H1.next H2.next bP vsP bsP pv ((ords n).map zl) ∧ Ext H1 H' ∧ H2.next ≤ H'.next ∧ (∀ c ∈ bs, c ∈ bsP.take i) ∧ ((((ords n).take i).filter fun o => passB k ss L U (zl o)).map zl ≠ [] → H2.next ≤ b) ∧
    e' = [s, .agg #[.int .i64 k, ls, us], .pointer (some ⟨H.next, 0, none⟩), .slice none 0 0, out, x5, pv, .int .i64 (ords n).length, .int .i64 i]) (ords n).length ⟨0, H1.next, [], [], .slice none 0 0, _, by omega, GrowK.nilL _ _, hP, hx2, Nat.le_refl _, by simp, by simp, rfl⟩ ?_
  clear hP
  rintro j e' H3 ⟨i, b, vs, bs, out, x5, hij, hg, hP, hx3, hn23, hbs, hbb, rfl⟩
  have hnx3 := hx3.next
  refine s_test ?_
  simp only [o_pure, o_nil, POp.ev, Opd.ev, gv, setD, Option.some.injEq, exists_eq_left', binV, ne_eq, not_true_eq_false, if_false]
  refine Test.split (fun hlt => ?_) (fun hlt => ?_)
  · have hlt' : i < (ords n).length := by simpa using hlt
    have hil : i < ((ords n).map zl).length := by rw [List.length_map]; exact hlt'
    obtain ⟨o1, o2⟩ := hoi _ (List.getElem_mem hlt')
    obtain ⟨sv, c, hh⟩ := hP.at hil
    have hne2 : ((ords n).map zl)[i] ≠ [] := by
      rw [List.getElem_map]
      intro e
      have := congrArg List.length e
      rw [zl_length, o1, List.length_nil] at this
      omega
    obtain ⟨w1, w2, w3, w4, w5, w6⟩ := hh.resolve_right hne2
    rw [List.getElem_map] at w5
    have hbp3 : H3.blk H.next = some [.int .i64 k, ls, us] := by rw [hx3.blk _ hbl]; exact hbp
    have hcr := hP.rngs c (List.mem_of_getElem? w4)
    refine s_skip1 ?_
    simp +decide only [p_seq_normal]
    refine s_block1 ?_
    refine s_reg ?_
    simp only [o_pure, o_nil, POp.ev, Opd.ev, gv, setD, List.set, Option.some.injEq, exists_eq_left', load1V, w1, w2]
    refine s_test1 ?_
    simp only [o_pure, o_callF, POp.ev, Opd.ev, gv, setD, List.map, Option.some.injEq, exists_eq_left', load3 hbp3]
    refine (miPasses_ok lim s _ sv ss L U (zl (ords n)[i]) k n H3 (by omega) (hs.ext (hx.trans hx3)) ⟨_, _, rfl, SlI.ext hls1 hx3, SlI.ext hus1 hx3⟩ (Vec.sl w5) hc hp hn (by rw [zl_length]; exact o1) (by
      intro x hxm
      obtain ⟨y, hy, rfl⟩ := List.mem_map.1 hxm
      have := o2 y hy
      omega)).mono ?_
    rintro _ H4 ⟨rfl, hx4⟩
    have hnx4 := hx4.next
    have htk : ((ords n).take (i + 1)).filter (fun o => passB k ss L U (zl o)) = ((ords n).take i).filter (fun o => passB k ss L U (zl o)) ++ (if passB k ss L U (zl (ords n)[i]) = true then [(ords n)[i]] else []) := by
      rw [List.take_succ_eq_append_getElem hlt', List.filter_append]
      congr 1
      cases h : passB k ss L U (zl (ords n)[i]) <;> simp [h]
    have hfl : ((((ords n).take i).filter fun o => passB k ss L U (zl o)).map zl).length ≤ 6 := by
      rw [List.length_map]
      have h1 := List.length_filter_le (fun o => passB k ss L U (zl o)) ((ords n).take i)
      have h2 : ((ords n).take i).length ≤ (ords n).length := by rw [List.length_take]; omega
      omega
    have hP4 := hP.extx hx4
    have hg4 := hg.ext hx4
    have hi2 : i < bsP.length := by rw [hP.len]; exact hil
    have hci : bsP[i] = c := by
      have := List.getElem?_eq_getElem hi2
      rw [w4] at this
      exact (Option.some.inj this).symm
    have hbt : bsP.take (i + 1) = bsP.take i ++ [c] := by rw [List.take_succ_eq_append_getElem hi2, hci]
    have hcn : c ∉ bs := by
      intro hm
      have h1 := hbs c hm
      obtain ⟨m, hm1, hm2⟩ := List.mem_iff_getElem.1 h1
      rw [List.getElem_take] at hm2
      rw [List.length_take] at hm1
      have := (List.getElem_inj (i := m) (j := i) (h₀ := by omega) (h₁ := hi2) hP.nodup).1 (by rw [hm2, hci])
      omega
    simp only [o_cont, o_nil, gv, setD]
    refine Test.split (fun hb => ?_) (fun hb => ?_)
    · obtain ⟨v5, H5, b5, e5, hg5, hx5, hn5, hk5, hb5⟩ := hg4.pushOld (lim := lim) (by omega) (hx3.trans hx4) (Nat.le_refl _) (by omega) hcr.1 (by omega) (fun e => by have := hbb e; omega) hcn (Vec.ext w5 hx4) (by omega)
      refine s_reg1 ?_
      simp only [o_pure, o_eff, o_nil, POp.ev, Opd.ev, EOp.ev, gv, setD, List.set, List.map, Option.some.injEq, exists_eq_left', bsliceV _ (.slice none 0 0) (x := sv) (Vec.cellsV w5), e5]
      simp +decide only [p_seq_normal, p_block_normal]
      refine s_reg1 ?_
      simp only [o_pure, o_nil, POp.ev, Opd.ev, gv, setD, List.set, Option.some.injEq, exists_eq_left', binV, ne_eq, not_true_eq_false, if_false, add1 (i := i) (by omega)]
      simp +decide only [p_seq_normal]
      refine Round.mk (j - 1) (by omega) ⟨i + 1, b5, vs ++ [sv], bs ++ [c], v5, sv, by omega, ?_, hP4.keep hn5 (fun x h1 h2 h3 => hk5 x h1 (fun e => by have := hbb e; omega)), hx5, by omega, ?_, ?_, rfl⟩
      · rw [htk, if_pos hb, List.map_append]
        exact hg5
      · intro c' hc'
        rw [hbt]
        rcases List.mem_append.1 hc' with h | h
        · exact List.mem_append.2 (.inl (hbs c' h))
        · exact List.mem_append.2 (.inr h)
      · intro _
        rcases hb5 with ⟨h1, rfl⟩ | h1
        · exact hbb h1
        · omega
    · refine s_skip1 ?_
      simp +decide only [p_seq_normal, p_block_normal]
      refine s_reg1 ?_
      simp only [o_pure, o_nil, POp.ev, Opd.ev, gv, setD, List.set, Option.some.injEq, exists_eq_left', binV, ne_eq, not_true_eq_false, if_false, add1 (i := i) (by omega)]
      simp +decide only [p_seq_normal]
      have htk' : ((ords n).take (i + 1)).filter (fun o => passB k ss L U (zl o)) = ((ords n).take i).filter (fun o => passB k ss L U (zl o)) := by rw [htk, hb]; simp
      refine Round.mk (j - 1) (by omega) ⟨i + 1, b, vs, bs, out, sv, by omega, ?_, hP4, hx3.trans hx4, by omega, ?_, ?_, rfl⟩
      · rw [htk']
        exact hg4
      · intro c' hc'
        rw [hbt]
        exact List.mem_append.2 (.inl (hbs c' hc'))
      · rw [htk']
        exact hbb
  · have hge : i = (ords n).length := by simp at hlt; omega
    subst hge
    refine s_exit1 ?_
    simp +decide only [p_seq_normal, p_seq_exit, p_block_exit, reduceIte]
    refine s_reg ?_
    simp only [o_pure, o_nil, POp.ev, Opd.ev, gv, setD, List.set, Option.some.injEq, exists_eq_left']
    refine s_ret1 ?_
    simp +decide only [p_fin_ret, resV, resOne, gv, Option.some.injEq, exists_eq_left']
    rw [List.take_length] at hg
    exact ⟨hg.own.wide (by omega) (Nat.le_refl _), hx.trans hx3⟩

/-- the degree that an order tells, after some sides -/
def degV (k : Nat) (ss : List (List Tm)) (L U : List Int) (o : List Nat) : Nat → Int
  | 0 => sgn 1 (zl o)
  | i + 1 => IntKind.i64.wrap (degV k ss L U o i * fcS k (ss.getD (o.getD i 0) []) L U i true)
/-- what MirandaDegree answers -/
def mdR (ss : List (List Tm)) (k : Int) (L U : List Int) : Int × Bool := if askB ss k L U then (match passing k.toNat ss L U ss.length with | [] => (0, false) | o :: _ => (degV k.toNat ss L U o ss.length, true)) else (0, false)
theorem sDegree_ok (lim : Nat) (s v : Value) (ss : List (List Tm)) (k : Int) (L U : List Int) (H : AHeap) (hl : lim ≤ H.next) (hs : SlSS H s ss) (hv : BoxV H v k L U) (hn : ss.length ≤ 1000000) (hn2 : ∀ p ∈ ss, p.length ≤ 1000000) (hL : L.length ≤ 1000000) (hU : U.length ≤ 1000000) :
    ACalls Try.prog lim n_spec_MirandaDegree [s, v] H fun v H' => v = .tuple #[.int .i64 (mdR ss k L U).1, .bool (mdR ss k L U).2] ∧ Ext H H' := by
  obtain ⟨ls, us, rfl, hls, hus⟩ := hv
  refine is_spec_MirandaDegree.go rfl ?_
  unfold c_spec_MirandaDegree
  refine s_reg ?_
  simp only [o_pure, o_eff, o_nil, POp.ev, Opd.ev, EOp.ev, env0, gu, gv, setD, List.set, Option.map_some, Option.some.injEq, exists_eq_left', boxH, cellsV]
  have hx : Ext H (H.alloc [.int .i64 k, ls, us]) := Ext.alloc _ _
  have hls1 := SlI.ext hls hx
  have hus1 := SlI.ext hus hx
  have hbp : (H.alloc [.int .i64 k, ls, us]).blk H.next = some [.int .i64 k, ls, us] := alloc_new _ _
  have hbl : H.next < (H.alloc [.int .i64 k, ls, us]).next := Nat.lt_succ_self _
  generalize H.alloc [.int .i64 k, ls, us] = H1 at hx hls1 hus1 hbp hbl ⊢
  have hn1 := hx.next
  refine s_test ?_
  simp only [o_pure, o_callF, POp.ev, Opd.ev, gv, setD, List.map, Option.some.injEq, exists_eq_left', load3 hbp]
  refine (miAsked_ok lim s _ ss k L U H1 (by omega) (hs.ext hx) ⟨_, _, rfl, hls1, hus1⟩ hn hn2 hL hU).mono ?_
  rintro _ H2 ⟨rfl, hx2⟩
  have hbp2 : H2.blk H.next = some [.int .i64 k, ls, us] := by rw [hx2.blk _ hbl]; exact hbp
  have hn2' := hx2.next
  simp only [o_cont, o_pure, o_nil, POp.ev, Opd.ev, gv, setD, Option.some.injEq, exists_eq_left', unV]
  refine Test.split (fun hg => ?_) (fun hg => ?_)
  · refine s_reg ?_
    simp only [o_pure, o_nil, POp.ev, Opd.ev, setD, List.set, Option.some.injEq, exists_eq_left']
    refine s_ret1 ?_
    simp +decide only [p_seq_ret, p_fin_ret, resV, resOne, resL, gv, Option.some.injEq, exists_eq_left', Option.bind_some, Option.map_some]
    simp only [Bool.not_eq_true'] at hg
    unfold mdR
    rw [hg]
    exact ⟨rfl, hx.trans hx2⟩
  simp only [Bool.not_eq_false'] at hg
  obtain ⟨kn, n, rfl, hsn, hc, hgs⟩ := askB_crs hg
  have hn3 := hc.n3
  have hgp := goodSS_pol hgs
  have hR : mdR ss kn L U = (match passing kn ss L U n with | [] => (0, false) | o :: _ => (degV kn ss L U o n, true)) := by
    unfold mdR
    rw [hg, if_pos rfl, Int.toNat_natCast, hsn]
  have hs2 := hs.ext (hx.trans hx2)
  refine s_skip1 ?_
  simp +decide only [p_seq_normal]
  refine s_reg ?_
  simp only [o_pure, o_callF, POp.ev, Opd.ev, gv, setD, List.map, Option.some.injEq, exists_eq_left', load3 hbp2]
  refine (miAll_ok lim s _ ss L U kn n H2 (by omega) hs2 ⟨_, _, rfl, SlI.ext hls1 hx2, SlI.ext hus1 hx2⟩ hc (fun p hp => (hgp p hp).1) hsn).mono ?_
  rintro lv H3 ⟨hw, hx3⟩
  have hn3' := hx3.next
  have hbp3 : H3.blk H.next = some [.int .i64 kn, ls, us] := by rw [hx3.blk _ (by omega)]; exact hbp2
  have hwl := hw.slss.lenV
  rw [List.length_map] at hwl
  simp only [o_cont, o_pure, o_nil, POp.ev, Opd.ev, gv, setD, List.set, Option.some.injEq, exists_eq_left']
  refine s_test ?_
  simp only [o_pure, o_nil, POp.ev, Opd.ev, gv, setD, Option.some.injEq, exists_eq_left', binV, ne_eq, not_true_eq_false, if_false, hwl]
  refine Test.split (fun hz => ?_) (fun hz => ?_)
  · have hz' : passing kn ss L U n = [] := by
      have : (passing kn ss L U n).length = 0 := by simpa using hz
      exact List.length_eq_zero_iff.1 this
    refine s_reg ?_
    simp only [o_pure, o_nil, POp.ev, Opd.ev, setD, List.set, Option.some.injEq, exists_eq_left']
    refine s_ret1 ?_
    simp +decide only [p_seq_ret, p_fin_ret, resV, resOne, resL, gv, Option.some.injEq, exists_eq_left', Option.bind_some, Option.map_some]
    rw [hR, hz']
    exact ⟨rfl, (hx.trans hx2).trans hx3⟩
  obtain ⟨o, rest, ho⟩ : ∃ o rest, passing kn ss L U n = o :: rest := by
    cases h : passing kn ss L U n with
    | nil => rw [h] at hz; simp at hz
    | cons o rest => exact ⟨o, rest, rfl⟩
  have hoi := passing_in (k := kn) (ss := ss) (L := L) (U := U) (n := n) hn3 (o := o) (by rw [ho]; simp)
  rw [ho] at hR hw
  obtain ⟨b1, o1, sv, w1, w2⟩ := hw.slss.atx (i := 0) (by simp)
  have w1' : iadV 1 lv (.int .i64 0) = some (.pointer (some ⟨b1, o1, none⟩)) := w1
  have w3 : SlI H3 sv (zl o) := (w2 _ (Ext.refl _)).2
  have w4 := (w2 _ (Ext.refl _)).1
  have hzl : (zl o).length = n := by rw [zl_length]; exact hoi.1
  have hsvl := w3.lenV
  rw [hzl] at hsvl
  refine s_skip1 ?_
  simp +decide only [p_seq_normal]
  refine s_reg ?_
  simp only [o_pure, o_callF, POp.ev, Opd.ev, gv, setD, List.map, Option.some.injEq, exists_eq_left', load1V, w1', w4]
  refine (sign_ok is_spec_tfSign _ sv (zl o) H3 w3 (by omega)).eq ?_
  simp only [o_cont, o_pure, o_nil, POp.ev, Opd.ev, gv, setD, List.set, Option.some.injEq, exists_eq_left']
  refine s_assoc (s_reg ?_)
  simp only [o_pure, o_nil, POp.ev, Opd.ev, gv, setD, List.set, Option.some.injEq, exists_eq_left', load1V, w1', w4, hsvl]
  refine s_block ?_
  have hx123 := (hx.trans hx2).trans hx3
  refine s_loop1 (fun j e' H' => ∃ (i : Nat) (x7 x8 : Value), i + j = n ∧ Ext H3 H' ∧ e' = [s, .agg #[.int .i64 kn, ls, us], .pointer (some ⟨H.next, 0, none⟩), .int .i64 0, .bool false, lv, .int .i64 (degV kn ss L U o i), x7, x8, sv, .int .i64 n, .int .i64 i]) n ⟨0, _, _, by omega, Ext.refl _, rfl⟩ ?_
  rintro j e' H4 ⟨i, x7, x8, hij, hx4, rfl⟩
  have hn4 := hx4.next
  refine s_test ?_
  simp only [o_pure, o_nil, POp.ev, Opd.ev, gv, setD, Option.some.injEq, exists_eq_left', binV, ne_eq, not_true_eq_false, if_false]
  refine Test.split (fun hlt => ?_) (fun hlt => ?_)
  · have hlt' : i < n := by simpa using hlt
    obtain ⟨b2, o2, u1, u2⟩ := zl_at (SlI.ext w3 hx4) (i := i) (by omega)
    have hol : i < o.length := by omega
    have hoin : o.getD i 0 < n := by
      have := hoi.2 _ (List.getElem_mem hol)
      simpa [hol] using this
    obtain ⟨b3, o3, s1, v1, v2, v3⟩ := (hs2.ext (hx3.trans hx4)).at (i := o.getD i 0) (by omega)
    have hgd : ss.getD (o.getD i 0) [] = ss[o.getD i 0]'(by omega) := by
      rw [List.getD_eq_getElem?_getD, List.getElem?_eq_getElem (by omega)]
      rfl
    have hbp4 : H4.blk H.next = some [.int .i64 kn, ls, us] := by rw [hx4.blk _ (by omega)]; exact hbp3
    refine s_skip1 ?_
    simp +decide only [p_seq_normal]
    refine s_block1 ?_
    refine s_reg ?_
    simp only [o_pure, o_nil, POp.ev, Opd.ev, gv, setD, List.set, Option.some.injEq, exists_eq_left', load1V, u1, u2]
    refine s_reg1 ?_
    simp only [o_pure, o_callF, POp.ev, Opd.ev, gv, setD, List.map, Option.some.injEq, exists_eq_left', load1V, v1, v2, load3 hbp4]
    refine (miFace_ok lim s1 _ _ L U kn n i true H4 (by omega) v3 ⟨_, _, rfl, SlI.ext (SlI.ext hls1 hx2) (hx3.trans hx4), SlI.ext (SlI.ext hus1 hx2) (hx3.trans hx4)⟩ hc (hgp _ (List.getElem_mem _)).1 hlt').mono ?_
    rintro _ H5 ⟨rfl, hx5⟩
    have hstep : IntKind.i64.wrap (degV kn ss L U o i * sgn3A kn (ss[o.getD i 0]'(by omega)) (faceL L U i true) (faceU L U i true)) = degV kn ss L U o (i + 1) := by
      rw [degV, hgd]
      rfl
    simp only [o_cont, o_pure, o_nil, POp.ev, Opd.ev, gv, setD, List.set, Option.some.injEq, exists_eq_left', binV, ne_eq, not_true_eq_false, if_false, hstep]
    simp +decide only [p_seq_normal, p_block_normal]
    refine s_reg1 ?_
    simp only [o_pure, o_nil, POp.ev, Opd.ev, gv, setD, List.set, Option.some.injEq, exists_eq_left', binV, ne_eq, not_true_eq_false, if_false, add1 (i := i) (by omega)]
    simp +decide only [p_seq_normal]
    exact Round.mk (j - 1) (by omega) ⟨i + 1, _, _, by omega, hx4.trans hx5, rfl⟩
  · have hge : i = n := by simp at hlt; omega
    subst hge
    refine s_exit1 ?_
    simp +decide only [p_seq_normal, p_seq_exit, p_block_exit, reduceIte]
    refine s_reg ?_
    simp only [o_pure, o_nil, POp.ev, Opd.ev, gv, setD, List.set, Option.some.injEq, exists_eq_left']
    refine s_ret1 ?_
    simp +decide only [p_fin_ret, resV, resOne, resL, gv, Option.some.injEq, exists_eq_left', Option.bind_some, Option.map_some]
    rw [hR]
    exact ⟨rfl, hx123.trans hx4⟩
end Go.Proofs.Ytaimceodhhgnnaa

/- All orders, the program: made in order, those that do not pass deleted; no condition beyond stated ranges. -/
namespace Go.Proofs.Ytaimceodhhgnnaa
open Go.Ab Ints
set_option linter.unusedSimpArgs false
set_option linter.unusedVariables false

/-! ### a list of one-cell elements, some deleted in place -/
/-- a list of one's own, cut; what is behind is cleared -/
theorem Vec.cut1 {lim : Nat} {H : AHeap} {b n : Nat} {v : Value} {cells : List Value} (h : Vec H b v n 1 cells) (hl : lim ≤ b) {k : Nat} (hk : k ≤ n) (z : Value) :
    ∃ vd H' vk, slcV 1 v (some (.int .i64 k)) none none = some vd ∧ clearH lim H [z] vd = some (undef, H') ∧ slcV 1 v none (some (.int .i64 k)) none = some vk ∧ Vec H' b vk k 1 (cells.take k) ∧ Chg b H H' := by
  have hcl := h.clen
  rw [Nat.mul_one] at hcl
  have hB : ∀ (x y : Nat), x ≤ y → sliceB (.int .i64 x) y = some x := by
    intro x y hxy
    simp [sliceB, intV, hxy]
  rcases h with ⟨rfl, h2, h3⟩ | ⟨c, sp, rest, rfl, hsp, hb, hblk, hcl', hc, hcr⟩
  · have hk0 : k = 0 := by omega
    subst hk0
    subst h3
    exact ⟨.slice none 0 0, H, .slice none 0 0, rfl, rfl, rfl, .inl ⟨rfl, rfl, rfl⟩, Chg.refl _ _⟩
  · have s1 : slcV 1 (.slice (some ⟨b, 0, sp⟩) n c) (some (.int .i64 k)) none none = some (.slice (some ⟨b, 0 + k * 1, sp⟩) (n - k) (c - k)) := by
      simp only [slcV, bounds, hB k n hk, Option.bind_some, if_pos hsp, Option.isSome_none, Bool.false_eq_true, if_false]
    have s2 : slcV 1 (.slice (some ⟨b, 0, sp⟩) n c) none (some (.int .i64 k)) none = some (.slice (some ⟨b, 0, sp⟩) k c) := by
      simp only [slcV, bounds, hB k c (by omega), Option.bind_some, if_pos hsp, Option.isSome_none, Bool.false_eq_true, if_false, Nat.zero_mul, Nat.add_zero, Nat.sub_zero]
    have tk : (cells.take k).length = k := by rw [List.length_take]; omega
    have vec : ∀ (H' : AHeap) (r : List Value), H'.next = H.next → H'.blk b = some (cells.take k ++ r) → r.length = (n - k) + rest.length → Vec H' b (.slice (some ⟨b, 0, sp⟩) k c) k 1 (cells.take k) := by
      intro H' r hn hbk hr
      refine .inr ⟨c, sp, r, rfl, hsp, by omega, hbk, by rw [tk, Nat.mul_one], by omega, ?_⟩
      rw [hr]
      omega
    by_cases h0 : n - k = 0
    · refine ⟨_, H, _, s1, ?_, s2, vec H rest rfl ?_ (by omega), Chg.refl _ _⟩
      · simp [clearH, h0, undef]
      · rw [List.take_of_length_le (by omega)]; exact hblk
    · refine ⟨_, _, _, s1, ?_, s2, vec (H.put b (putL (cells ++ rest) (0 + k * 1) (zerosL (n - k) [z]))) (zerosL (n - k) [z] ++ rest) rfl ?_ ?_, Chg.put _ _ _⟩
      · simp only [clearH, if_neg h0, if_pos hl, hblk, Option.bind_some]
        rw [if_pos]
        · rfl
        · simp; omega
      · rw [put_same]
        congr 1
        unfold putL
        have zl1 : (zerosL (n - k) [z]).length = n - k := by rw [zerosL_length]; simp
        rw [Nat.zero_add, Nat.mul_one, zl1, List.take_append_of_le_length (by omega), show k + (n - k) = cells.length by omega, List.drop_left, List.append_assoc]
      · rw [List.length_append, zerosL_length]
        simp
/-- what is kept -/
def kept (fl : List (Value × Bool)) : List (Value × Bool) := fl.filter fun x => !x.2
theorem kept_append (a b : List (Value × Bool)) : kept (a ++ b) = kept a ++ kept b := List.filter_append ..
theorem kept_all {fl : List (Value × Bool)} (h : ∀ x ∈ fl, x.2 = false) : kept fl = fl := List.filter_eq_self.2 fun x hx => by rw [h x hx]; rfl
theorem kept_take_succ {fl : List (Value × Bool)} {j : Nat} (hj : j < fl.length) : kept (fl.take (j + 1)) = kept (fl.take j) ++ if fl[j].2 = true then [] else [fl[j]] := by
  rw [List.take_succ_eq_append_getElem hj, kept_append]
  congr 1
  cases h : fl[j].2 <;> simp [kept, h]
/-- the first that is deleted -/
def FirstD (fl : List (Value × Bool)) (r : Int) : Prop := (r = -1 ∧ ∀ x ∈ fl, x.2 = false) ∨ ∃ i : Nat, r = (i : Int) ∧ (∀ x ∈ fl.take i, x.2 = false) ∧ ∃ h : i < fl.length, (fl[i]'h).2 = true
/-- what is asked of the function that tells what is deleted -/
def Tells (lim b : Nat) (H : AHeap) (fv : Value) (fl : List (Value × Bool)) : Prop := ∀ x ∈ fl, ∀ (G : AHeap) (R : Value → AHeap → Prop), Chg b H G → (∀ G', Ext G G' → R (.bool x.2) G') → callV Try.prog lim fv [x.1] G R
theorem Tells.chg {lim b : Nat} {H H' : AHeap} {fv : Value} {fl : List (Value × Bool)} (h : Tells lim b H fv fl) (hc : Chg b H H') : Tells lim b H' fv fl := fun x hx G R hg hr => h x hx G R (hc.trans hg) hr
theorem pair_at {H : AHeap} {b : Nat} {s : Value} {fl : List (Value × Bool)} (hs : Vec H b s fl.length 1 (fl.map (·.1))) {i : Nat} (hi : i < fl.length) : iadV 1 s (.int .i64 i) = some (.pointer (some ⟨b, i, none⟩)) ∧ H.cell b i = some fl[i].1 := by
  have h1 := Vec.iad hs .i64 hi
  rw [Nat.mul_one] at h1
  refine ⟨h1, Vec.cell hs ?_⟩
  rw [List.getElem?_map, List.getElem?_eq_getElem hi]
  rfl
theorem indexD_ok (lim b : Nat) (s fv : Value) (fl : List (Value × Bool)) (H : AHeap) (hs : Vec H b s fl.length 1 (fl.map (·.1))) (hf : Tells lim b H fv fl) (hn : fl.length ≤ 1000000) :
    ACalls Try.prog lim n_slices_IndexFunc_S_S_int_S_int [s, fv] H fun v H' => ∃ r, v = .int .i64 r ∧ FirstD fl r ∧ Ext H H' := by
  refine is_slices_IndexFunc_S_S_int_S_int.go rfl ?_
  unfold c_slices_IndexFunc_S_S_int_S_int
  refine s_reg ?_
  simp only [o_pure, o_nil, POp.ev, Opd.ev, env0, gu, setD, List.set, Option.some.injEq, exists_eq_left']
  refine s_assoc (s_reg ?_)
  simp only [o_pure, o_nil, POp.ev, Opd.ev, gv, setD, List.set, Option.some.injEq, exists_eq_left', Vec.lenV hs]
  refine s_block ?_
  refine s_loop1 (fun k e' H' => ∃ (i : Nat) (x : Value), i + k = fl.length ∧ (∀ t ∈ fl.take i, t.2 = false) ∧ Ext H H' ∧ e' = [s, fv, .int .i64 0, x, .int .i64 fl.length, .int .i64 i]) fl.length ⟨0, _, by omega, by simp, Ext.refl _, rfl⟩ ?_
  rintro k e' H' ⟨i, x, hik, hz, hx, rfl⟩
  refine s_test ?_
  simp only [o_pure, o_nil, POp.ev, Opd.ev, gv, setD, Option.some.injEq, exists_eq_left', binV, ne_eq, not_true_eq_false, if_false]
  refine Test.split (fun hlt => ?_) (fun hlt => ?_)
  · have hlt' : i < fl.length := by simpa using hlt
    obtain ⟨h1, h2⟩ := pair_at (Vec.ext hs hx) hlt'
    refine s_skip1 ?_
    simp +decide only [p_seq_normal]
    refine s_block ?_
    refine s_reg ?_
    simp only [o_pure, o_nil, POp.ev, Opd.ev, gv, setD, List.set, Option.some.injEq, exists_eq_left']
    refine s_test1 ?_
    simp only [o_callT, o_pure, POp.ev, Opd.ev, gv, setD, List.map, Option.some.injEq, exists_eq_left', load1V, h1, h2]
    refine hf _ (List.getElem_mem hlt') _ _ (Chg.of_ext hx) fun H2 hx2 => ?_
    simp only [o_cont, o_nil, gv, setD]
    refine Test.split (fun hg => ?_) (fun hg => ?_)
    · refine s_reg ?_
      simp only [o_pure, o_nil, POp.ev, Opd.ev, gv, setD, List.set, Option.some.injEq, exists_eq_left']
      refine s_ret1 ?_
      simp +decide only [p_seq_ret, p_block_ret, p_fin_ret, resV, resOne, gv, Option.some.injEq, exists_eq_left']
      exact ⟨_, rfl, .inr ⟨i, rfl, hz, hlt', hg⟩, hx.trans hx2⟩
    · refine s_skip1 ?_
      simp +decide only [p_seq_normal, p_block_normal]
      refine s_reg1 ?_
      simp only [o_pure, o_nil, POp.ev, Opd.ev, gv, setD, List.set, Option.some.injEq, exists_eq_left', binV, ne_eq, not_true_eq_false, if_false, add1 (i := i) (by omega)]
      simp +decide only [p_seq_normal]
      refine Round.mk (k - 1) (by omega) ⟨i + 1, _, by omega, fun t ht => ?_, hx.trans hx2, rfl⟩
      rw [List.take_succ_eq_append_getElem hlt', List.mem_append] at ht
      rcases ht with ht | ht
      · exact hz t ht
      · rw [List.mem_singleton.1 ht]; exact hg
  · have hge : i = fl.length := by simp at hlt; omega
    subst hge
    refine s_exit1 ?_
    simp +decide only [p_seq_normal, p_seq_exit, p_block_exit, reduceIte]
    refine s_reg ?_
    simp only [o_pure, o_nil, POp.ev, Opd.ev, setD, List.set, Option.some.injEq, exists_eq_left']
    refine s_ret1 ?_
    simp +decide only [p_fin_ret, resV, resOne, gv, Option.some.injEq, exists_eq_left']
    rw [List.take_length] at hz
    exact ⟨_, rfl, .inl ⟨rfl, hz⟩, hx⟩
theorem deleteD_ok (lim b : Nat) (s fv : Value) (fl : List (Value × Bool)) (H : AHeap) (hs : Vec H b s fl.length 1 (fl.map (·.1))) (hcv : ∀ x ∈ fl, cellsV x.1 = some [x.1]) (hf : Tells lim b H fv fl) (hl : lim ≤ b) (hn : fl.length ≤ 1000000) :
    ACalls Try.prog lim n_slices_DeleteFunc_S_S_int_S_int [s, fv] H fun v H' => Vec H' b v (kept fl).length 1 ((kept fl).map (·.1)) ∧ Chg b H H' := by
  refine is_slices_DeleteFunc_S_S_int_S_int.go rfl ?_
  unfold c_slices_DeleteFunc_S_S_int_S_int
  refine s_reg ?_
  simp only [o_pure, o_nil, POp.ev, Opd.ev, env0, gu, setD, List.set, Option.some.injEq, exists_eq_left']
  refine s_reg ?_
  simp only [o_pure, o_callF, POp.ev, Opd.ev, gv, setD, List.map, Option.some.injEq, exists_eq_left']
  refine (indexD_ok lim b s fv fl H hs hf hn).mono ?_
  rintro _ H2 ⟨r, rfl, hfd, hx2⟩
  simp only [o_cont, o_pure, o_nil, POp.ev, Opd.ev, gv, setD, List.set, Option.some.injEq, exists_eq_left']
  refine s_test ?_
  rcases hfd with ⟨rfl, hz⟩ | ⟨i, rfl, hz, hi, hzi⟩
  · have hd : ((-1 : Int) == -1) = true := by decide
    simp only [o_pure, o_nil, POp.ev, Opd.ev, gv, setD, Option.some.injEq, exists_eq_left', binV, ne_eq, not_true_eq_false, if_false, beq_self_eq_true]
    refine Test.true_ (s_reg ?_)
    simp only [o_pure, o_nil, POp.ev, Opd.ev, gv, setD, List.set, Option.some.injEq, exists_eq_left']
    refine s_ret1 ?_
    simp +decide only [p_seq_ret, p_fin_ret, resV, resOne, gv, Option.some.injEq, exists_eq_left']
    rw [kept_all hz]
    exact ⟨Vec.ext hs hx2, Chg.of_ext hx2⟩
  · have hd : ((i : Int) == -1) = false := by simp <;> omega
    simp only [o_pure, o_nil, POp.ev, Opd.ev, gv, setD, Option.some.injEq, exists_eq_left', binV, ne_eq, not_true_eq_false, if_false, hd]
    refine Test.false_ (s_skip1 ?_)
    simp +decide only [p_seq_normal]
    refine s_assoc (s_reg ?_)
    simp only [o_pure, o_nil, POp.ev, Opd.ev, gv, setD, List.set, Option.some.injEq, exists_eq_left', binV, ne_eq, not_true_eq_false, if_false, add1 (i := i) (by omega)]
    refine s_block ?_
    refine s_loop1 (fun k e' H' => ∃ (j : Nat) (F G : List (Value × Bool)) (x5 : Value), j + k = fl.length ∧ F = kept (fl.take j) ∧ F.length + G.length = j ∧ G ≠ [] ∧ Vec H' b s (F ++ G ++ fl.drop j).length 1 ((F ++ G ++ fl.drop j).map (·.1)) ∧ Chg b H H' ∧ e' = [s, fv, .slice none 0 0, .int .i64 F.length, .int .i64 j, x5]) (fl.length - (i + 1))
      ⟨i + 1, fl.take i, [fl[i]], _, by omega, by rw [kept_take_succ hi, if_pos hzi, List.append_nil, kept_all hz], by simp; omega, by simp, ?_, Chg.of_ext hx2, by rw [List.length_take, Nat.min_eq_left (by omega)]⟩ ?_
    · have : fl.take i ++ [fl[i]] ++ fl.drop (i + 1) = fl := by rw [List.append_assoc, List.singleton_append, List.getElem_cons_drop, List.take_append_drop]
      rw [this]
      exact Vec.ext hs hx2
    rintro k e' H3 ⟨j, F, G, x5, hjk, hF, hFG, hG, hv, hc, rfl⟩
    have hFj : F.length ≤ j := by omega
    have hvl : (F ++ G ++ fl.drop j).length = fl.length := by simp; omega
    refine s_test ?_
    have hlv := Vec.lenV hv
    rw [hvl] at hlv
    simp only [o_pure, o_nil, POp.ev, Opd.ev, gv, setD, Option.some.injEq, exists_eq_left', binV, ne_eq, not_true_eq_false, if_false, hlv]
    refine Test.split (fun hlt => ?_) (fun hlt => ?_)
    · have hlt' : j < fl.length := by simpa using hlt
      obtain ⟨j1, a1⟩ := pair_at hv (i := j) (by omega)
      have g1 : (F ++ G ++ fl.drop j)[j]'(by omega) = fl[j] := by
        rw [List.getElem_append_right (by simp; omega), List.getElem_drop]
        congr 1
        simp; omega
      rw [g1] at a1
      refine s_skip1 ?_
      simp +decide only [p_seq_normal]
      refine s_block ?_
      refine s_reg ?_
      simp only [o_pure, o_nil, POp.ev, Opd.ev, gv, setD, List.set, Option.some.injEq, exists_eq_left', load1V, j1, a1]
      have hdj : fl.drop j = fl[j] :: fl.drop (j + 1) := (List.getElem_cons_drop ..).symm
      obtain ⟨g, G', rfl⟩ : ∃ g G', G = g :: G' := by
        cases G with
        | nil => exact absurd rfl hG
        | cons g G' => exact ⟨g, G', rfl⟩
      simp only [List.length_cons] at hFG
      refine s_test1 ?_
      simp only [o_callT, o_pure, POp.ev, Opd.ev, gv, setD, List.map, Option.some.injEq, exists_eq_left']
      refine hf _ (List.getElem_mem hlt') _ _ hc fun H5 hx5 => ?_
      replace hv := Vec.ext hv hx5
      replace hc := hc.trans (Chg.of_ext hx5)
      simp only [o_cont, o_pure, o_nil, POp.ev, Opd.ev, gv, setD, Option.some.injEq, exists_eq_left', unV]
      have leave : ∀ (F2 G2 : List (Value × Bool)) (H6 : AHeap), F2 = kept (fl.take (j + 1)) → F2.length + G2.length = j + 1 → G2 ≠ [] → Vec H6 b s (F2 ++ G2 ++ fl.drop (j + 1)).length 1 ((F2 ++ G2 ++ fl.drop (j + 1)).map (·.1)) → Chg b H H6 →
          Round (fun k e' H' => ∃ (j : Nat) (F G : List (Value × Bool)) (x5 : Value), j + k = fl.length ∧ F = kept (fl.take j) ∧ F.length + G.length = j ∧ G ≠ [] ∧ Vec H' b s (F ++ G ++ fl.drop j).length 1 ((F ++ G ++ fl.drop j).map (·.1)) ∧ Chg b H H' ∧ e' = [s, fv, .slice none 0 0, .int .i64 F.length, .int .i64 j, x5]) k [s, fv, .slice none 0 0, .int .i64 F2.length, .int .i64 ((j + 1 : Nat) : Int), fl[j].1] H6 := by
        intro F2 G2 H6 h1 h2 h3 h4 h5
        exact Round.mk (k - 1) (by omega) ⟨j + 1, F2, G2, _, by omega, h1, h2, h3, h4, h5, rfl⟩
      refine Test.split (fun hg => ?_) (fun hg => ?_)
      · have hg' : ¬ fl[j].2 = true := by simpa using hg
        have hsh : F ++ g :: G' ++ fl.drop j = F ++ g :: (G' ++ fl.drop j) := by simp
        rw [hsh] at hv
        have hFl : F.length < (F ++ g :: (G' ++ fl.drop j)).length := by simp
        obtain ⟨j2, a2⟩ := pair_at hv (i := F.length) hFl
        obtain ⟨cs, t1, hv6⟩ := Vec.put1 (lim := lim) hv hl (i := F.length) (x := fl[j].1) (hcv _ (List.getElem_mem hlt')) hFl
        refine s_reg ?_
        simp only [o_pure, o_eff, o_nil, POp.ev, Opd.ev, EOp.ev, gv, setD, Option.some.injEq, exists_eq_left', j2, t1]
        refine s_reg1 ?_
        simp only [o_pure, o_nil, POp.ev, Opd.ev, gv, setD, List.set, Option.some.injEq, exists_eq_left', binV, ne_eq, not_true_eq_false, if_false, add1 (i := F.length) (by omega)]
        simp +decide only [p_seq_normal, p_block_normal]
        refine s_reg1 ?_
        simp only [o_pure, o_nil, POp.ev, Opd.ev, gv, setD, List.set, Option.some.injEq, exists_eq_left', binV, ne_eq, not_true_eq_false, if_false, add1 (i := j) (by omega)]
        simp +decide only [p_seq_normal]
        have e2 : (F ++ g :: (G' ++ fl.drop j)).set F.length fl[j] = (F ++ [fl[j]]) ++ (G' ++ [fl[j]]) ++ fl.drop (j + 1) := by
          rw [List.set_append_right _ _ (by omega), Nat.sub_self, hdj]
          simp
        have e3 : (F ++ g :: (G' ++ fl.drop j)).length = ((F ++ [fl[j]]) ++ (G' ++ [fl[j]]) ++ fl.drop (j + 1)).length := by rw [← e2, List.length_set]
        rw [← List.map_set, e2, e3] at hv6
        have := leave (F ++ [fl[j]]) (G' ++ [fl[j]]) _ (by rw [kept_take_succ hlt', if_neg hg', hF]) (by simp; omega) (by simp) hv6 (hc.trans (Chg.put _ _ _))
        rw [List.length_append, List.length_singleton] at this
        exact this
      · have hg' : fl[j].2 = true := by simpa using hg
        refine s_skip1 ?_
        simp +decide only [p_seq_normal, p_block_normal]
        refine s_reg1 ?_
        simp only [o_pure, o_nil, POp.ev, Opd.ev, gv, setD, List.set, Option.some.injEq, exists_eq_left', binV, ne_eq, not_true_eq_false, if_false, add1 (i := j) (by omega)]
        simp +decide only [p_seq_normal]
        refine leave F (g :: G' ++ [fl[j]]) _ (by rw [kept_take_succ hlt', if_pos hg', List.append_nil, hF]) (by simp; omega) (by simp) ?_ hc
        rw [hdj] at hv
        simpa using hv
    · have hge : j = fl.length := by simp at hlt; omega
      subst hge
      refine s_exit1 ?_
      simp +decide only [p_seq_normal, p_seq_exit, p_block_exit, reduceIte]
      rw [List.take_length] at hF
      obtain ⟨vd, H4, vk, m1, m2, m3, m4, m5⟩ := Vec.cut1 (lim := lim) hv hl (k := F.length) (by simp <;> omega) (.slice none 0 0)
      refine s_reg ?_
      simp only [o_pure, o_eff, o_nil, POp.ev, Opd.ev, EOp.ev, gv, setD, Option.map_none, Option.map_some, Option.some.injEq, exists_eq_left', m1, m2]
      refine s_reg ?_
      simp only [o_pure, o_nil, POp.ev, Opd.ev, gv, setD, List.set, Option.map_none, Option.map_some, Option.some.injEq, exists_eq_left', m3]
      refine s_ret1 ?_
      simp +decide only [p_fin_ret, resV, resOne, gv, Option.some.injEq, exists_eq_left']
      rw [← List.map_take, List.append_assoc, List.take_left] at m4
      rw [← hF]
      exact ⟨m4, hc.trans m5⟩

/-! ### all orders -/
theorem ordI2_small : ∀ n : Fin 4, ∀ i : Fin 4, (ordI2 n.val i.val).length ≤ 27 ∧ ∀ l ∈ ordI2 n.val i.val, l.length = i.val := by decide
/-- one more number behind a list -/
def more (n : Nat) (l : List Nat) : List (List Nat) := (List.range n).flatMap fun k => if k ∈ l then [] else [l ++ [k]]
theorem more_len (l : List Nat) : ∀ n : Nat, (more n l).length ≤ n
  | 0 => by simp [more]
  | n + 1 => by
    have := more_len l n
    unfold more at this ⊢
    rw [List.range_succ, List.flatMap_append, List.length_append]
    have : ([n].flatMap fun k => if k ∈ l then ([] : List (List Nat)) else [l ++ [k]]).length ≤ 1 := by
      simp only [List.flatMap_cons, List.flatMap_nil, List.append_nil]
      split <;> simp
    omega
theorem flat_len {α β : Type} (f : α → List β) (B : Nat) (h : ∀ a, (f a).length ≤ B) : ∀ l : List α, (l.flatMap f).length ≤ l.length * B
  | [] => by simp
  | a :: l => by
    rw [List.flatMap_cons, List.length_append, List.length_cons, Nat.succ_mul]
    have := h a
    have := flat_len f B h l
    omega
theorem ordersOf_ok (lim n : Nat) (H : AHeap) (hl : lim ≤ H.next) (hn1 : 1 ≤ n) (hn3 : n ≤ 3) :
    ACalls Try.prog lim n_impl_ordersOf [.int .i64 n] H fun v H' => OwnKK H' H.next H'.next v ((ords n).map zl) ∧ Ext H H' := by
  refine is_impl_ordersOf.go rfl ?_
  unfold c_impl_ordersOf
  refine s_reg ?_
  simp only [o_pure, o_nil, POp.ev, Opd.ev, env0, gu, setD, List.set, Option.some.injEq, exists_eq_left']
  refine s_reg ?_
  simp only [o_pure, o_eff, o_nil, POp.ev, Opd.ev, EOp.ev, gv, setD, List.set, List.map, Option.some.injEq, exists_eq_left', bsliceV H (x := .slice none 0 0) (.slice none 0 0) rfl]
  have h0 := SlKK.one H
  have hx0 := Ext.alloc H [Value.slice none 0 0]
  generalize H.alloc [Value.slice none 0 0] = H1 at h0 hx0 ⊢
  generalize (Value.slice (some ⟨H.next, 0, some 0⟩) 1 1) = o1 at h0 ⊢
  refine s_assoc (s_reg ?_)
  simp only [o_pure, o_nil, POp.ev, Opd.ev, gv, setD, List.set, Option.some.injEq, exists_eq_left']
  refine s_block ?_
  refine s_loop1 (fun j e' H' => ∃ (i : Nat) (out x3 x4 x5 x8 x9 x10 x11 x12 : Value), i + j = n ∧ SlKK H' out ((ordI2 n i).map zl) ∧ (0 < i → OwnKK H' H.next H'.next out ((ordI2 n i).map zl)) ∧ Ext H H' ∧ e' = [.int .i64 n, .slice none 0 0, out, x3, x4, x5, .int .i64 n, .int .i64 i, x8, x9, x10, x11, x12]) n ⟨0, o1, _, _, _, _, _, _, _, _, by omega, h0, by omega, hx0, rfl⟩ ?_
  clear h0 hx0
  rintro j e' H2 ⟨i, out, x3, x4, x5, x8, x9, x10, x11, x12, hij, ho, hoo, hx, rfl⟩
  have hnx := hx.next
  refine s_test ?_
  simp only [o_pure, o_nil, POp.ev, Opd.ev, gv, setD, Option.some.injEq, exists_eq_left', binV, ne_eq, not_true_eq_false, if_false]
  refine Test.split (fun hlt => ?_) (fun hlt => ?_)
  · have hlt' : i < n := by simpa using hlt
    obtain ⟨hpl, hpm⟩ := ordI2_small ⟨n, by omega⟩ ⟨i, by omega⟩
    simp only at hpl hpm
    have hol := ho.lenV
    rw [List.length_map] at hol
    have hnext : ordI2 n (i + 1) = (ordI2 n i).flatMap (more n) := rfl
    generalize ordI2 n i = PL at *
    refine s_skip1 ?_
    simp +decide only [p_seq_normal]
    refine s_block1 ?_
    refine s_reg ?_
    simp only [o_pure, o_nil, POp.ev, Opd.ev, setD, List.set, Option.some.injEq, exists_eq_left']
    refine s_assoc (s_reg ?_)
    simp only [o_pure, o_nil, POp.ev, Opd.ev, gv, setD, List.set, Option.some.injEq, exists_eq_left', hol]
    refine s_block ?_
    refine s_loop1 (fun j2 e' H' => ∃ (m b : Nat) (vs : List Value) (bs : List Nat) (nx x4 x5 x11 x12 : Value), m + j2 = PL.length ∧ GrowK H' H2.next b vs bs nx (((PL.take m).flatMap (more n)).map zl) ∧ Ext H2 H' ∧ e' = [.int .i64 n, .slice none 0 0, out, nx, x4, x5, .int .i64 n, .int .i64 i, out, .int .i64 PL.length, .int .i64 m, x11, x12]) PL.length ⟨0, H2.next, [], [], .slice none 0 0, _, _, _, _, by omega, GrowK.nil' H2, Ext.refl _, rfl⟩ ?_
    rintro j2 e' H3 ⟨m, b, vs, bs, nx, x4, x5, x11, x12, hmj, hg, hx3, rfl⟩
    have hnx3 := hx3.next
    refine s_test ?_
    simp only [o_pure, o_nil, POp.ev, Opd.ev, gv, setD, Option.some.injEq, exists_eq_left', binV, ne_eq, not_true_eq_false, if_false]
    refine Test.split (fun hlt2 => ?_) (fun hlt2 => ?_)
    · have hml : m < PL.length := by simpa using hlt2
      obtain ⟨b2, o2, ls, w2, w3⟩ := ho.atx (i := m) (by rw [List.length_map]; exact hml)
      simp only [List.getElem_map] at w3
      have hmt := List.take_succ_eq_append_getElem hml
      have hll := hpm _ (List.getElem_mem hml)
      have hfl := flat_len (more n) n (fun l => more_len l n) (PL.take m)
      rw [List.length_take, Nat.min_eq_left (by omega)] at hfl
      have hfl2 : m * n ≤ 27 * 3 := Nat.mul_le_mul (by omega) hn3
      generalize PL[m] = l at *
      refine s_skip1 ?_
      simp +decide only [p_seq_normal]
      refine s_block1 ?_
      refine s_reg ?_
      simp only [o_pure, o_nil, POp.ev, Opd.ev, gv, setD, List.set, Option.some.injEq, exists_eq_left', load1V, w2, (w3 _ hx3).1]
      refine s_reg ?_
      simp only [o_pure, o_nil, POp.ev, Opd.ev, gv, setD, List.set, Option.some.injEq, exists_eq_left']
      refine s_block1 ?_
      refine s_loop1 (fun j3 e' H' => ∃ (k b : Nat) (vs : List Value) (bs : List Nat) (nx x5 : Value), k + j3 = n ∧ GrowK H' H2.next b vs bs nx (((PL.take m).flatMap (more n) ++ more k l).map zl) ∧ Ext H2 H' ∧ e' = [.int .i64 n, .slice none 0 0, out, nx, ls, x5, .int .i64 n, .int .i64 i, out, .int .i64 PL.length, .int .i64 m, .int .i64 n, .int .i64 k]) n ⟨0, b, vs, bs, nx, _, by omega, by simpa [more] using hg, hx3, rfl⟩ ?_
      clear hg
      rintro j3 e' H4 ⟨k, b, vs, bs, nx, x5, hkj, hg, hx4, rfl⟩
      have hn4 := hx4.next
      refine s_test ?_
      simp only [o_pure, o_nil, POp.ev, Opd.ev, gv, setD, Option.some.injEq, exists_eq_left', binV, ne_eq, not_true_eq_false, if_false]
      refine Test.split (fun hlt3 => ?_) (fun hlt3 => ?_)
      · have hkn : k < n := by simpa using hlt3
        have hmk := more_len l k
        have hlen : (((PL.take m).flatMap (more n) ++ more k l).map zl).length ≤ 1000 := by
          rw [List.length_map, List.length_append]
          omega
        have hms : more (k + 1) l = more k l ++ if k ∈ l then [] else [l ++ [k]] := by
          unfold more
          rw [List.range_succ, List.flatMap_append]
          simp only [List.flatMap_cons, List.flatMap_nil, List.append_nil]
        refine s_skip1 ?_
        simp +decide only [p_seq_normal]
        refine s_block1 ?_
        refine s_reg ?_
        simp only [o_pure, o_nil, POp.ev, Opd.ev, gv, setD, List.set, Option.some.injEq, exists_eq_left']
        refine s_test1 ?_
        simp only [o_pure, o_callF, POp.ev, Opd.ev, gv, setD, List.map, Option.some.injEq, exists_eq_left']
        refine (Ints.contains_ok _ ls (zl l) k H4 (w3 _ hx4).2 (by rw [zl_length]; omega)).eq ?_
        rw [zl_any]
        simp only [o_cont, o_pure, o_nil, POp.ev, Opd.ev, gv, setD, Option.some.injEq, exists_eq_left', unV]
        refine Test.split (fun hm => ?_) (fun hm => ?_)
        · have hm' : k ∉ l := by simpa using hm
          refine s_reg1 ?_
          simp only [o_pure, o_callF, POp.ev, Opd.ev, gv, setD, List.map, Option.some.injEq, exists_eq_left']
          refine (Ints.clone_ok lim ls (zl l) H4 (by omega) (w3 _ hx4).2 (by rw [zl_length]; omega)).mono ?_
          rintro cl H5 ⟨c, hc1, hc2, hcl, hx5⟩
          have hn5 := hx5.next
          obtain ⟨v6, H6, c6, e6, hv6, hc6, hlt6, ch6, n6⟩ := push1 (lim := lim) (bytes := 8) hcl (.int .i64 (k : Int)) (by omega) (by rw [zl_length]; omega)
          have hx6 := Chg.ext hx5 ch6 hc1
          have hn6 := hx6.next
          have hv6' : VecI H6 c6 v6 (zl (l ++ [k])) := by
            rw [zl_snoc]
            exact VecI.snoc hv6
          obtain ⟨v7, H7, b7, e7, hg7, hx7⟩ := GrowK.push (lim := lim) hg (by omega) hx4 (Nat.le_refl _) hn4 hx6 (by rcases hc6 with h | h <;> omega) (by omega) hv6' (by omega)
          simp only [o_cont, o_pure, o_eff, o_nil, POp.ev, Opd.ev, EOp.ev, gv, setD, List.set, List.map, Option.some.injEq, exists_eq_left', bsliceV _ (.int .i64 0) (x := .int .i64 (k : Int)) rfl, e6, bsliceV _ (.slice none 0 0) (x := v6) (Vec.cellsV hv6'), e7]
          simp +decide only [p_seq_normal, p_block_normal]
          refine s_reg1 ?_
          simp only [o_pure, o_nil, POp.ev, Opd.ev, gv, setD, List.set, Option.some.injEq, exists_eq_left', binV, ne_eq, not_true_eq_false, if_false, add1 (i := k) (by omega)]
          simp +decide only [p_seq_normal]
          refine Round.mk (j3 - 1) (by omega) ⟨k + 1, b7, vs ++ [v6], bs ++ [c6], v7, .int .i64 k, by omega, ?_, hx7, rfl⟩
          rw [hms, if_neg hm', ← List.append_assoc, List.map_append]
          exact hg7
        · have hm' : k ∈ l := by simpa using hm
          refine s_skip1 ?_
          simp +decide only [p_seq_normal, p_block_normal]
          refine s_reg1 ?_
          simp only [o_pure, o_nil, POp.ev, Opd.ev, gv, setD, List.set, Option.some.injEq, exists_eq_left', binV, ne_eq, not_true_eq_false, if_false, add1 (i := k) (by omega)]
          simp +decide only [p_seq_normal]
          refine Round.mk (j3 - 1) (by omega) ⟨k + 1, b, vs, bs, nx, .int .i64 k, by omega, ?_, hx4, rfl⟩
          rw [hms, if_pos hm', List.append_nil]
          exact hg
      · have hge : k = n := by simp at hlt3; omega
        subst hge
        refine s_exit1 ?_
        simp +decide only [p_seq_normal, p_seq_exit, p_block_normal, p_block_exit, reduceIte]
        refine s_reg1 ?_
        simp only [o_pure, o_nil, POp.ev, Opd.ev, gv, setD, List.set, Option.some.injEq, exists_eq_left', binV, ne_eq, not_true_eq_false, if_false, add1 (i := m) (by omega)]
        simp +decide only [p_seq_normal]
        refine Round.mk (j2 - 1) (by omega) ⟨m + 1, b, vs, bs, nx, _, _, _, _, by omega, ?_, hx4, rfl⟩
        rw [hmt, List.flatMap_append]
        simpa using hg
    · have hge : m = PL.length := by simp at hlt2; omega
      subst hge
      refine s_exit1 ?_
      simp +decide only [p_seq_normal, p_seq_exit, p_block_exit, reduceIte]
      refine s_reg1 ?_
      simp only [o_pure, o_nil, POp.ev, Opd.ev, gv, setD, List.set, Option.some.injEq, exists_eq_left']
      simp +decide only [p_seq_normal, p_block_normal]
      refine s_reg1 ?_
      simp only [o_pure, o_nil, POp.ev, Opd.ev, gv, setD, List.set, Option.some.injEq, exists_eq_left', binV, ne_eq, not_true_eq_false, if_false, add1 (i := i) (by omega)]
      simp +decide only [p_seq_normal]
      rw [List.take_length, ← hnext] at hg
      exact Round.mk (j - 1) (by omega) ⟨i + 1, nx, _, _, _, _, _, _, _, _, by omega, hg.own.slss, fun _ => hg.own.wide hnx (Nat.le_refl _), hx.trans hx3, rfl⟩
  · have hge : i = n := by simp at hlt; omega
    subst hge
    refine s_exit1 ?_
    simp +decide only [p_seq_normal, p_seq_exit, p_block_exit, reduceIte]
    refine s_reg ?_
    simp only [o_pure, o_nil, POp.ev, Opd.ev, gv, setD, List.set, Option.some.injEq, exists_eq_left']
    refine s_ret1 ?_
    simp +decide only [p_fin_ret, resV, resOne, gv, Option.some.injEq, exists_eq_left']
    exact ⟨hoo (by omega), hx⟩
end Go.Proofs.Ytaimceodhhgnnaa

/- Miranda's orders, the program: all that pass, the degree; no condition beyond stated ranges. -/
namespace Go.Proofs.Ytaimceodhhgnnaa
open Go.Ab Ints
set_option linter.unusedSimpArgs false
set_option linter.unusedVariables false

/-- some elements of a list of one's own, the outer list written anew in its place -/
theorem OwnK.sub {H H' : AHeap} {lo hi b : Nat} {vs : List Value} {bs : List Nat} {v v' : Value} {ss : List (List Int)} (h : OwnK H lo hi b vs bs v ss) {idx : List Nat} (hnd : idx.Nodup) (hin : ∀ i ∈ idx, i < ss.length) (hv : Vec H' b v' idx.length 1 (idx.map fun i => vs.getD i undef)) (hc : Chg b H H') :
    OwnK H' lo hi b (idx.map fun i => vs.getD i undef) (idx.map fun i => bs.getD i 0) v' (idx.map fun i => ss.getD i []) := by
  obtain ⟨h1, h2, h3, h4, h5, h6, h7⟩ := h
  have hbg : ∀ i ∈ idx, ∃ hi : i < bs.length, bs.getD i 0 = bs[i] := fun i hi => by
    have := hin i hi
    exact ⟨by omega, by simp [show i < bs.length by omega]⟩
  refine ⟨by rw [List.length_map]; exact hv, by simp, h3, ?_, ?_, ?_, ?_⟩
  · unfold List.Nodup
    rw [List.pairwise_map]
    refine List.Pairwise.imp_of_mem ?_ hnd
    intro a c ha hc2 hne e
    obtain ⟨ha1, ha2⟩ := hbg a ha
    obtain ⟨hc1, hc2'⟩ := hbg c hc2
    rw [ha2, hc2'] at e
    exact hne ((List.getElem_inj h4).1 e)
  · intro hm
    obtain ⟨i, hi1, hi2⟩ := List.mem_map.1 hm
    obtain ⟨ha1, ha2⟩ := hbg i hi1
    rw [ha2] at hi2
    exact h5 (hi2 ▸ List.getElem_mem ha1)
  · intro c hcm
    obtain ⟨i, hi1, rfl⟩ := List.mem_map.1 hcm
    obtain ⟨ha1, ha2⟩ := hbg i hi1
    rw [ha2]
    exact h6 _ (List.getElem_mem ha1)
  · intro j p hp
    rw [List.getElem?_map] at hp
    obtain ⟨i, hi1, hi2⟩ := Option.map_eq_some_iff.1 hp
    have him := List.mem_of_getElem? hi1
    have hil := hin i him
    obtain ⟨s, c, g1, g2, g3⟩ := h7 i _ (List.getElem?_eq_getElem hil)
    have hgs : ss.getD i [] = ss[i] := by simp [hil]
    rw [hgs] at hi2
    subst hi2
    refine ⟨s, c, ?_, ?_, Vec.chg g3 hc (fun e => h5 (e ▸ List.mem_of_getElem? g2))⟩
    · rw [List.getElem?_map, hi1]
      simp [g1]
    · rw [List.getElem?_map, hi1]
      simp [g2]
theorem range_getD {α : Type} (l : List α) (d : α) : l = (List.range l.length).map fun i => l.getD i d := by
  refine List.ext_getElem (by simp) fun i h1 h2 => ?_
  simp [h1]
theorem closure_ok (lim : Nat) (s bl bu o : Value) (ss : List (List Tm)) (L U order : List Int) (k n q p2 p3 : Nat) (H : AHeap) (hl : lim ≤ H.next) (hs : SlSS H s ss) (hv : BoxP H q k bl bu L U) (hq : q < H.next) (ho : SlI H o order) (hc : Crs k n L U) (hp : ∀ p ∈ ss, goodP p = true ∧ fromB n p = true) (hn : ss.length = n) (hon : order.length = n) (hin : ∀ x ∈ order, 0 ≤ x ∧ x ≤ (n : Int) - 1)
    (h2 : H.blk p2 = some [s]) (h3 : H.blk p3 = some [.pointer (some ⟨q, 0, none⟩)]) :
    ACalls Try.prog lim n_impl_mirandaOrders_1 [o, .pointer (some ⟨p2, 0, none⟩), .pointer (some ⟨p3, 0, none⟩)] H fun v H' => v = .bool (!passB k ss L U order) ∧ Ext H H' := by
  refine is_impl_mirandaOrders_1.go rfl ?_
  unfold c_impl_mirandaOrders_1
  refine s_reg ?_
  simp only [o_pure, o_nil, POp.ev, Opd.ev, env0, gu, setD, List.set, Option.some.injEq, exists_eq_left']
  refine s_reg ?_
  have c2 : H.cell p2 0 = some s := cell_blk h2 0
  have c3 : H.cell p3 0 = some (.pointer (some ⟨q, 0, none⟩)) := cell_blk h3 0
  simp only [o_pure, o_callF, POp.ev, Opd.ev, gv, setD, List.map, Option.some.injEq, exists_eq_left', load1V, c2, c3]
  refine (passesMiranda_ok lim s bl bu o ss L U order k n q H hl hs hv hq ho hc hp hn hon hin).mono ?_
  rintro _ H' ⟨rfl, hx⟩
  simp only [o_cont, o_pure, o_nil, POp.ev, Opd.ev, gv, setD, List.set, Option.some.injEq, exists_eq_left', unV]
  refine s_ret1 ?_
  simp +decide only [p_fin_ret, resV, resOne, gv, Option.some.injEq, exists_eq_left']
  exact ⟨trivial, hx⟩
theorem mirandaOrders_ok (lim : Nat) (s bl bu : Value) (ss : List (List Tm)) (L U : List Int) (k n q : Nat) (H : AHeap) (hl : lim ≤ H.next) (hs : SlSS H s ss) (hv : BoxP H q k bl bu L U) (hq : q < H.next) (hc : Crs k n L U) (hp : ∀ p ∈ ss, goodP p = true ∧ fromB n p = true) (hn : ss.length = n) :
    ACalls Try.prog lim n_impl_mirandaOrders [s, .pointer (some ⟨q, 0, none⟩)] H fun v H' => OwnKK H' H.next H'.next v ((passing k ss L U n).map zl) ∧ Ext H H' := by
  have hn3 := hc.n3
  have hn1 := hc.n1
  refine is_impl_mirandaOrders.go rfl ?_
  unfold c_impl_mirandaOrders
  have hcv : cellsV s = some [s] := by
    obtain ⟨vs, h1, _⟩ := hs
    exact h1.cellsV
  have hcp : cellsV (.pointer (some ⟨q, 0, none⟩)) = some [.pointer (some ⟨q, 0, none⟩)] := rfl
  refine s_reg ?_
  simp only [o_pure, o_eff, o_nil, POp.ev, Opd.ev, EOp.ev, env0, gu, gv, setD, List.set, Option.map_some, Option.some.injEq, exists_eq_left', boxH, hcv, hcp]
  have hx1 : Ext H ((H.alloc [s]).alloc [.pointer (some ⟨q, 0, none⟩)]) := (Ext.alloc _ _).trans (Ext.alloc _ _)
  have hp3 : ((H.alloc [s]).alloc [.pointer (some ⟨q, 0, none⟩)]).blk (H.next + 1) = some [.pointer (some ⟨q, 0, none⟩)] := alloc_new (H.alloc [s]) _
  have hp2 : ((H.alloc [s]).alloc [.pointer (some ⟨q, 0, none⟩)]).blk H.next = some [s] := by
    rw [alloc_old _ _ (Nat.lt_succ_self _)]
    exact alloc_new _ _
  have hnx : ((H.alloc [s]).alloc [.pointer (some ⟨q, 0, none⟩)]).next = H.next + 2 := rfl
  have hna : (H.alloc [s]).next = H.next + 1 := rfl
  rw [hna]
  generalize (H.alloc [s]).alloc [.pointer (some ⟨q, 0, none⟩)] = H1 at hx1 hp3 hp2 hnx ⊢
  have c2 : H1.cell H.next 0 = some s := cell_blk hp2 0
  refine s_reg ?_
  simp only [o_pure, o_callF, POp.ev, Opd.ev, gv, setD, List.map, Option.some.injEq, exists_eq_left', load1V, c2, hs.lenV]
  rw [hn]
  refine (ordersOf_ok lim n H1 (by omega) hn1 hn3).mono ?_
  rintro pv H2 ⟨hw, hx2⟩
  have hnx2 := hx2.next
  have hne : ords n ≠ [] := by
    have : ∀ m : Fin 4, ords m.val ≠ [] := by decide
    exact this ⟨n, by omega⟩
  rcases hw with ⟨_, h0⟩ | ⟨b, vs, bs, hP⟩
  · exact absurd (List.map_eq_nil_iff.1 h0) hne
  have hoi := ords_in ⟨n, by omega⟩
  have hol := ords_len ⟨n, by omega⟩
  simp only at hoi hol
  have hbr := hP.rng
  have hvl : vs.length = (ords n).length := by
    have := hP.vec.clen
    rw [List.length_map, Nat.mul_one] at this
    exact this
  simp only [o_cont, o_pure, o_callF, POp.ev, Opd.ev, gv, setD, List.map, Option.some.injEq, exists_eq_left']
  have hfl : ((List.range (ords n).length).map fun i => (vs.getD i undef, !passB k ss L U (zl ((ords n).getD i [])))).map (·.1) = vs := by
    rw [List.map_map]
    have := range_getD vs undef
    rw [hvl] at this
    exact this.symm
  generalize hFL : ((List.range (ords n).length).map fun i => (vs.getD i undef, !passB k ss L U (zl ((ords n).getD i [])))) = FL at hfl
  have hFLl : FL.length = (ords n).length := by rw [← hFL]; simp
  have hmem : ∀ x ∈ FL, ∃ i, i < (ords n).length ∧ x = (vs.getD i undef, !passB k ss L U (zl ((ords n).getD i []))) := by
    intro x hx
    rw [← hFL] at hx
    obtain ⟨i, hi, rfl⟩ := List.mem_map.1 hx
    exact ⟨i, List.mem_range.1 hi, rfl⟩
  have hel : ∀ i (hi : i < (ords n).length), ∃ sv c, vs.getD i undef = sv ∧ c ≠ b ∧ VecI H2 c sv (zl ((ords n).getD i [])) := by
    intro i hi
    obtain ⟨sv, c, g1, g2, g3⟩ := hP.el i (zl ((ords n).getD i [])) (by rw [List.getElem?_map, List.getElem?_eq_getElem hi]; simp [hi])
    refine ⟨sv, c, ?_, fun e => hP.nin (e ▸ List.mem_of_getElem? g2), g3⟩
    rw [List.getD_eq_getElem?_getD, g1]
    rfl
  have hT : Tells lim b H2 (.func (.func 136) #[] #[.pointer (some ⟨H.next, 0, none⟩), .pointer (some ⟨H.next + 1, 0, none⟩)]) FL := by
    intro x hx G R hg hr
    obtain ⟨i, hi, rfl⟩ := hmem x hx
    obtain ⟨sv, c, e1, e2, e3⟩ := hel i hi
    have hxG : Ext H1 G := Chg.ext hx2 hg (by omega)
    have hxG0 := hx1.trans hxG
    have hngG := hxG.next
    have hgd : (ords n).getD i [] = (ords n)[i] := by simp [hi]
    obtain ⟨q1, q2⟩ := hoi _ (List.getElem_mem hi)
    rw [callV_clo]
    refine (closure_ok lim s bl bu sv ss L U (zl ((ords n).getD i [])) k n q H.next (H.next + 1) G (by omega) (hs.ext hxG0) (hv.ext hq hxG0) (by omega) (Vec.sl (Vec.chg e3 hg e2)) hc hp hn (by rw [zl_length, hgd]; exact q1) (by
      intro x hxm
      rw [hgd] at hxm
      obtain ⟨y, hy, rfl⟩ := List.mem_map.1 hxm
      have := q2 y hy
      omega) (by rw [hxG.blk _ (by omega)]; exact hp2) (by rw [hxG.blk _ (by omega)]; exact hp3) |> fun h => ?_)
    simp only [e1]
    refine h.mono ?_
    rintro _ G' ⟨rfl, hx'⟩
    exact hr G' hx'
  refine (deleteD_ok lim b pv _ FL H2 (by rw [hFLl, hfl]; have := hP.vec; rw [List.length_map] at this; exact this) ?_ hT (by omega) (by omega)).mono ?_
  · intro x hx
    obtain ⟨i, hi, rfl⟩ := hmem x hx
    obtain ⟨sv, c, e1, e2, e3⟩ := hel i hi
    simp only [e1]
    exact Vec.cellsV e3
  rintro v H3 ⟨hv3, hc3⟩
  have hidx : kept FL = ((List.range (ords n).length).filter fun i => passB k ss L U (zl ((ords n).getD i []))).map fun i => (vs.getD i undef, !passB k ss L U (zl ((ords n).getD i []))) := by
    rw [← hFL]
    unfold kept
    rw [List.filter_map]
    congr 1
    refine List.filter_congr fun i _ => ?_
    simp
  have hpass : (passing k ss L U n).map zl = ((List.range (ords n).length).filter fun i => passB k ss L U (zl ((ords n).getD i []))).map fun i => ((ords n).map zl).getD i [] := by
    unfold passing
    have e := range_getD (ords n) []
    conv => lhs; rw [e]
    rw [List.filter_map, List.map_map]
    refine List.map_congr_left fun i hi => ?_
    have hi' := List.mem_range.1 (List.mem_filter.1 hi).1
    simp [Function.comp, hi']
  have hk := hP.sub (H' := H3) (v' := v) (idx := (List.range (ords n).length).filter fun i => passB k ss L U (zl ((ords n).getD i []))) (List.nodup_range.filter _) (fun i hi => by rw [List.length_map]; exact List.mem_range.1 (List.mem_filter.1 hi).1) (by
    rw [hidx, List.length_map, List.map_map] at hv3
    exact hv3) hc3
  rw [← hpass] at hk
  have hnx3 := hc3.next
  simp only [o_cont, o_pure, o_nil, POp.ev, Opd.ev, gv, setD, List.set, Option.some.injEq, exists_eq_left']
  refine s_ret1 ?_
  simp +decide only [p_fin_ret, resV, resOne, gv, Option.some.injEq, exists_eq_left']
  exact ⟨OwnKK.wide (.inr ⟨_, _, _, hk⟩) (by omega) hnx3, Chg.ext (hx1.trans hx2) hc3 (by omega)⟩

theorem iDegree_ok (lim : Nat) (s v : Value) (ss : List (List Tm)) (k : Int) (L U : List Int) (H : AHeap) (hl : lim ≤ H.next) (hs : SlSS H s ss) (hv : BoxV H v k L U) (hn : ss.length ≤ 1000000) (hn2 : ∀ p ∈ ss, p.length ≤ 1000000) (hL : L.length ≤ 1000000) (hU : U.length ≤ 1000000) :
    ACalls Try.prog lim n_impl_MirandaDegree [s, v] H fun v H' => v = .tuple #[.int .i64 (mdR ss k L U).1, .bool (mdR ss k L U).2] ∧ Ext H H' := by
  obtain ⟨ls, us, rfl, hls, hus⟩ := hv
  refine is_impl_MirandaDegree.go rfl ?_
  unfold c_impl_MirandaDegree
  refine s_reg ?_
  simp only [o_pure, o_eff, o_nil, POp.ev, Opd.ev, EOp.ev, env0, gu, gv, setD, List.set, Option.map_some, Option.some.injEq, exists_eq_left', boxH, cellsV]
  have hx : Ext H (H.alloc [.int .i64 k, ls, us]) := Ext.alloc _ _
  have hbp : BoxP (H.alloc [.int .i64 k, ls, us]) H.next k ls us L U := ⟨alloc_new _ _, SlI.ext hls hx, SlI.ext hus hx⟩
  have hbl : H.next < (H.alloc [.int .i64 k, ls, us]).next := Nat.lt_succ_self _
  generalize H.alloc [.int .i64 k, ls, us] = H1 at hx hbp hbl ⊢
  have hn1 := hx.next
  refine s_test_I (!askB ss k L U) (Ext H1) ?_ (fun H2 hx2 hg => ?_) (fun H2 hx2 hg => ?_)
  · simp only [o_pure, o_callF, POp.ev, Opd.ev, gv, setD, List.map, Option.some.injEq, exists_eq_left']
    refine (systemOver_ok lim s ls us ss k L U H.next H1 (by omega) (hs.ext hx) hbp hbl hn hn2 hL hU).mono ?_
    rintro _ H2 ⟨rfl, hx2⟩
    have hb2 := hbp.ext hbl hx2
    rw [ask_over]
    cases h1 : overB ss k L U
    · simp only [o_cont, o_pure, o_guard, gk_tf, o_nil, POp.ev, Opd.ev, gv, setD, Option.some.injEq, exists_eq_left', pickV, unV, Bool.not_false]
      exact ⟨by simp, trivial, hx2⟩
    simp only [o_cont, o_pure, o_guard, gk_ff, o_nil, POp.ev, Opd.ev, gv, setD, Option.some.injEq, exists_eq_left', pickV, binV, load1V, unV, fadV, ne_eq, not_true_eq_false, if_false, Bool.not_true, List.getElem?_cons_zero, Nat.zero_add, cell_blk hb2.blk]
    refine ⟨?_, trivial, hx2⟩
    by_cases h2 : k > 4 <;> simp [h2] <;> omega
  · refine s_reg ?_
    simp only [o_pure, o_nil, POp.ev, Opd.ev, setD, List.set, Option.some.injEq, exists_eq_left']
    refine s_ret1 ?_
    simp +decide only [p_seq_ret, p_fin_ret, resV, resOne, resL, gv, Option.some.injEq, exists_eq_left', Option.bind_some, Option.map_some]
    simp only [Bool.not_eq_true'] at hg
    unfold mdR
    rw [hg]
    exact ⟨rfl, hx.trans hx2⟩
  simp only [Bool.not_eq_false'] at hg
  obtain ⟨kn, n, rfl, hsn, hc, hgs⟩ := askB_crs hg
  have hn3 := hc.n3
  have hn2' := hx2.next
  have hgp : ∀ p ∈ ss, goodP p = true ∧ fromB n p = true := fun p hp => hsn ▸ goodSS_pol hgs p hp
  have hR : mdR ss kn L U = (match passing kn ss L U n with | [] => (0, false) | o :: _ => (degV kn ss L U o n, true)) := by
    unfold mdR
    rw [hg, if_pos rfl, Int.toNat_natCast, hsn] <;> rfl
  have hs2 := hs.ext (hx.trans hx2)
  have hbp2 := hbp.ext hbl hx2
  refine s_skip1 ?_
  simp +decide only [p_seq_normal]
  refine s_reg ?_
  simp only [o_pure, o_callF, POp.ev, Opd.ev, gv, setD, List.map, Option.some.injEq, exists_eq_left']
  refine (mirandaOrders_ok lim s ls us ss L U kn n H.next H2 (by omega) hs2 hbp2 (by omega) hc hgp hsn).mono ?_
  rintro lv H3 ⟨hw, hx3⟩
  have hn3' := hx3.next
  have hbp3 := hbp2.ext (by omega) hx3
  have hwl := hw.slss.lenV
  rw [List.length_map] at hwl
  simp only [o_cont, o_pure, o_nil, POp.ev, Opd.ev, gv, setD, List.set, Option.some.injEq, exists_eq_left']
  refine s_test ?_
  simp only [o_pure, o_nil, POp.ev, Opd.ev, gv, setD, Option.some.injEq, exists_eq_left', binV, ne_eq, not_true_eq_false, if_false, hwl]
  refine Test.split (fun hz => ?_) (fun hz => ?_)
  · have hz' : passing kn ss L U n = [] := by
      have : (passing kn ss L U n).length = 0 := by simpa using hz
      exact List.length_eq_zero_iff.1 this
    refine s_reg ?_
    simp only [o_pure, o_nil, POp.ev, Opd.ev, setD, List.set, Option.some.injEq, exists_eq_left']
    refine s_ret1 ?_
    simp +decide only [p_seq_ret, p_fin_ret, resV, resOne, resL, gv, Option.some.injEq, exists_eq_left', Option.bind_some, Option.map_some]
    rw [hR, hz']
    exact ⟨rfl, (hx.trans hx2).trans hx3⟩
  obtain ⟨o, rest, ho⟩ : ∃ o rest, passing kn ss L U n = o :: rest := by
    cases h : passing kn ss L U n with
    | nil => rw [h] at hz; simp at hz
    | cons o rest => exact ⟨o, rest, rfl⟩
  have hoi := passing_in (k := kn) (ss := ss) (L := L) (U := U) (n := n) hn3 (o := o) (by rw [ho]; simp)
  rw [ho] at hR hw
  obtain ⟨b1, o1, sv, w1, w2⟩ := hw.slss.atx (i := 0) (by simp)
  have w1' : iadV 1 lv (.int .i64 0) = some (.pointer (some ⟨b1, o1, none⟩)) := w1
  have w3 : SlI H3 sv (zl o) := (w2 _ (Ext.refl _)).2
  have w4 := (w2 _ (Ext.refl _)).1
  have hzl : (zl o).length = n := by rw [zl_length]; exact hoi.1
  have hsvl := w3.lenV
  rw [hzl] at hsvl
  refine s_skip1 ?_
  simp +decide only [p_seq_normal]
  refine s_reg ?_
  simp only [o_pure, o_callF, POp.ev, Opd.ev, gv, setD, List.map, Option.some.injEq, exists_eq_left', load1V, w1', w4]
  refine (sign_ok is_impl_orderSign _ sv (zl o) H3 w3 (by omega)).eq ?_
  simp only [o_cont, o_pure, o_nil, POp.ev, Opd.ev, gv, setD, List.set, Option.some.injEq, exists_eq_left']
  refine s_assoc (s_reg ?_)
  simp only [o_pure, o_nil, POp.ev, Opd.ev, gv, setD, List.set, Option.some.injEq, exists_eq_left', load1V, w1', w4, hsvl]
  refine s_block ?_
  have hx123 := (hx.trans hx2).trans hx3
  refine s_loop1 (fun j e' H' => ∃ (i : Nat) (x7 x8 : Value), i + j = n ∧ Ext H3 H' ∧ e' = [s, .agg #[.int .i64 kn, ls, us], .pointer (some ⟨H.next, 0, none⟩), .int .i64 0, .bool false, lv, .int .i64 (degV kn ss L U o i), x7, x8, sv, .int .i64 n, .int .i64 i]) n ⟨0, _, _, by omega, Ext.refl _, rfl⟩ ?_
  rintro j e' H4 ⟨i, x7, x8, hij, hx4, rfl⟩
  have hn4 := hx4.next
  refine s_test ?_
  simp only [o_pure, o_nil, POp.ev, Opd.ev, gv, setD, Option.some.injEq, exists_eq_left', binV, ne_eq, not_true_eq_false, if_false]
  refine Test.split (fun hlt => ?_) (fun hlt => ?_)
  · have hlt' : i < n := by simpa using hlt
    obtain ⟨b2, o2, u1, u2⟩ := zl_at (SlI.ext w3 hx4) (i := i) (by omega)
    have hol : i < o.length := by omega
    have hoin : o.getD i 0 < n := by
      have := hoi.2 _ (List.getElem_mem hol)
      simpa [hol] using this
    obtain ⟨b3, o3, s1, v1, v2, v3⟩ := (hs2.ext (hx3.trans hx4)).at (i := o.getD i 0) (by omega)
    have hgd : ss.getD (o.getD i 0) [] = ss[o.getD i 0]'(by omega) := by
      rw [List.getD_eq_getElem?_getD, List.getElem?_eq_getElem (by omega)]
      rfl
    obtain ⟨pp1, pp2⟩ := hgp _ (List.getElem_mem (show o.getD i 0 < ss.length by omega))
    refine s_skip1 ?_
    simp +decide only [p_seq_normal]
    refine s_block1 ?_
    refine s_reg ?_
    simp only [o_pure, o_nil, POp.ev, Opd.ev, gv, setD, List.set, Option.some.injEq, exists_eq_left', load1V, u1, u2]
    refine s_reg1 ?_
    simp only [o_pure, o_callF, POp.ev, Opd.ev, gv, setD, List.map, Option.some.injEq, exists_eq_left', load1V, v1, v2]
    refine (faceSign_ok lim s1 ls us _ L U kn n i H.next true H4 (by omega) v3 (hbp3.ext (by omega) hx4) (by omega) hc pp1 pp2 hlt').mono ?_
    rintro _ H5 ⟨rfl, hx5⟩
    have hstep : IntKind.i64.wrap (degV kn ss L U o i * fcS kn (ss[o.getD i 0]'(by omega)) L U i true) = degV kn ss L U o (i + 1) := by
      rw [degV, hgd]
    simp only [o_cont, o_pure, o_nil, POp.ev, Opd.ev, gv, setD, List.set, Option.some.injEq, exists_eq_left', binV, ne_eq, not_true_eq_false, if_false, hstep]
    simp +decide only [p_seq_normal, p_block_normal]
    refine s_reg1 ?_
    simp only [o_pure, o_nil, POp.ev, Opd.ev, gv, setD, List.set, Option.some.injEq, exists_eq_left', binV, ne_eq, not_true_eq_false, if_false, add1 (i := i) (by omega)]
    simp +decide only [p_seq_normal]
    exact Round.mk (j - 1) (by omega) ⟨i + 1, _, _, by omega, hx4.trans hx5, rfl⟩
  · have hge : i = n := by simp at hlt; omega
    subst hge
    refine s_exit1 ?_
    simp +decide only [p_seq_normal, p_seq_exit, p_block_exit, reduceIte]
    refine s_reg ?_
    simp only [o_pure, o_nil, POp.ev, Opd.ev, gv, setD, List.set, Option.some.injEq, exists_eq_left']
    refine s_ret1 ?_
    simp +decide only [p_fin_ret, resV, resOne, resL, gv, Option.some.injEq, exists_eq_left', Option.bind_some, Option.map_some]
    rw [hR]
    exact ⟨rfl, hx123.trans hx4⟩
end Go.Proofs.Ytaimceodhhgnnaa

/- FnExactPassesMiranda, the law's contract: for all arguments the law answers true; no condition. -/
namespace Go.Proofs.Ytaimceodhhgnnaa
open Go.Ab Ints
set_option linter.unusedSimpArgs false
set_option linter.unusedVariables false
theorem szTermSSb_ok (lim : Nat) (s : Value) (ss : List (List Tm)) (left : Int) (H : AHeap) (hs : SlSS H s ss) (h0 : -20000000000000 ≤ left) (h1 : left ≤ 1000000000) (hn : ss.length ≤ 20000000000000) (hn2 : ∀ p ∈ ss, p.length ≤ 20000000000000) :
    ACalls Try.prog lim n_laws_szTermSS [s, .int .i64 left] H fun v H' => (∃ r : Int, v = .int .i64 r ∧ (¬ r < 0 → (ss.length : Int) + tot ss + r ≤ left)) ∧ H' = H := by
  refine is_laws_szTermSS.go rfl ?_
  unfold c_laws_szTermSS
  have hw : IntKind.i64.wrap (left - ss.length) = left - ss.length := by rw [IntKind.wrap_i64]; omega
  refine s_reg ?_
  simp only [o_pure, o_nil, POp.ev, Opd.ev, env0, gu, setD, List.set, Option.some.injEq, exists_eq_left']
  refine s_reg ?_
  simp only [o_pure, o_nil, POp.ev, Opd.ev, gv, setD, List.set, Option.some.injEq, exists_eq_left', binV, ne_eq, not_true_eq_false, if_false, hs.lenV, hw]
  refine s_test ?_
  simp only [o_pure, o_nil, POp.ev, Opd.ev, gv, setD, Option.some.injEq, exists_eq_left', binV, ne_eq, not_true_eq_false, if_false]
  refine Test.split (fun h => ?_) (fun h => ?_)
  · refine s_reg ?_
    simp only [o_pure, o_nil, POp.ev, Opd.ev, setD, List.set, Option.some.injEq, exists_eq_left']
    refine s_ret1 ?_
    simp +decide only [p_seq_ret, p_fin_ret, resV, resOne, gv, Option.some.injEq, exists_eq_left']
    exact ⟨⟨-1, rfl, by omega⟩, trivial⟩
  have hge : 0 ≤ left - (ss.length : Int) := by simpa using h
  refine s_skip1 ?_
  simp +decide only [p_seq_normal]
  refine s_assoc (s_reg ?_)
  simp only [o_pure, o_nil, POp.ev, Opd.ev, setD, List.set, Option.some.injEq, exists_eq_left']
  refine s_block ?_
  refine s_loop1 (fun j e' H' => H' = H ∧ ∃ (i : Nat), i + j = ss.length ∧ 0 ≤ left - (ss.length : Int) - tot (ss.take i) ∧ e' = [s, .int .i64 (left - (ss.length : Int) - tot (ss.take i)), .int .i64 0, .int .i64 i]) ss.length ⟨rfl, 0, by omega, by simpa [tot] using hge, by simp [tot]⟩ ?_
  rintro j e' H ⟨rfl, i, hij, hnn, rfl⟩
  refine s_test ?_
  simp only [o_pure, o_nil, POp.ev, Opd.ev, gv, setD, Option.some.injEq, exists_eq_left', binV, ne_eq, not_true_eq_false, if_false, hs.lenV]
  refine Test.split (fun hlt => ?_) (fun hlt => ?_)
  · have hlt' : i < ss.length := by simpa using hlt
    obtain ⟨b1, o1, s1, k1, k2, k3⟩ := hs.at hlt'
    have hpl := hn2 _ (List.getElem_mem hlt')
    have htk := tot_take_succ hlt'
    refine s_skip1 ?_
    simp +decide only [p_seq_normal]
    refine s_block ?_
    refine s_reg ?_
    simp only [o_pure, o_callF, POp.ev, Opd.ev, gv, setD, List.map, Option.some.injEq, exists_eq_left', load1V, k1, k2]
    refine (szTermS_ok _ _ _ _ _ k3.lenV (by omega) (by omega) hpl).eq ?_
    by_cases hc : left - (ss.length : Int) - tot (ss.take i) - ss[i].length < 0
    · rw [if_pos hc]
      have d1 : decide ((-1 : Int) < 0) = true := by decide
      simp only [o_cont, o_pure, o_nil, POp.ev, Opd.ev, gv, setD, List.set, Option.some.injEq, exists_eq_left']
      refine s_test1 ?_
      simp only [o_pure, o_nil, POp.ev, Opd.ev, gv, setD, Option.some.injEq, exists_eq_left', binV, ne_eq, not_true_eq_false, if_false, d1]
      refine Test.true_ (s_reg ?_)
      simp only [o_pure, o_nil, POp.ev, Opd.ev, setD, List.set, Option.some.injEq, exists_eq_left']
      refine s_ret1 ?_
      simp +decide only [p_seq_ret, p_block_ret, p_fin_ret, resV, resOne, gv, Option.some.injEq, exists_eq_left']
      exact ⟨⟨-1, rfl, by omega⟩, trivial⟩
    · rw [if_neg hc]
      have d1 : decide (left - (ss.length : Int) - tot (ss.take i) - ss[i].length < 0) = false := by simpa using hc
      simp only [o_cont, o_pure, o_nil, POp.ev, Opd.ev, gv, setD, List.set, Option.some.injEq, exists_eq_left']
      refine s_test1 ?_
      simp only [o_pure, o_nil, POp.ev, Opd.ev, gv, setD, Option.some.injEq, exists_eq_left', binV, ne_eq, not_true_eq_false, if_false, d1]
      refine Test.false_ (s_skip1 ?_)
      simp +decide only [p_seq_normal, p_block_normal]
      refine s_reg1 ?_
      simp only [o_pure, o_nil, POp.ev, Opd.ev, gv, setD, List.set, Option.some.injEq, exists_eq_left', binV, ne_eq, not_true_eq_false, if_false, add1 (i := i) (by omega)]
      simp +decide only [p_seq_normal]
      exact Round.mk (j - 1) (by omega) ⟨rfl, i + 1, by omega, by omega, by rw [htk]; congr 3; simp; omega⟩
  · have hge : i = ss.length := by simp at hlt; omega
    subst hge
    refine s_exit1 ?_
    simp +decide only [p_seq_normal, p_seq_exit, p_block_exit, reduceIte]
    refine s_reg ?_
    simp only [o_pure, o_nil, POp.ev, Opd.ev, gv, setD, List.set, Option.some.injEq, exists_eq_left']
    refine s_ret1 ?_
    simp +decide only [p_fin_ret, resV, resOne, gv, Option.some.injEq, exists_eq_left']
    rw [List.take_length] at hnn ⊢
    exact ⟨⟨_, rfl, by omega⟩, trivial⟩

end Go.Proofs.Ytaimceodhhgnnaa
